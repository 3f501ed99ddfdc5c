/- The walk of the statement FieldQuotients. -/
import Derived.Test.YtgpfacaooiempaaWField
namespace Go.Proofs.Ytgpfacaooiempaa
open Go.RowKit

set_option maxHeartbeats 1000000 in
theorem quot_zero (a b c : F) (w : World) (ha : a = 0) :
    Calls Try.prog 9 #[.int .u16 a.nat, .int .u16 b.nat, .int .u16 c.nat] w fun e w' => e = .returned (.bool true) ∧ Below w.heap.size w w' := by
  have d1 : decide (a = 0) = true := decide_eq_true ha
  have d2 := feq0 ha
  have d3 := feq0 (show F.inv a = 0 by rw [ha, F.inv_zero])
  clear ha
  go_enter Try.func9, Try.ntmps9
  go_wp2_with (first
    | (go_at_call 10; refine (new_any _).mono ?_; rintro e w' ⟨rfl, rfl⟩)
    | (go_at_call 11; refine (inv_any _ _ _ _ rfl).mono ?_; rintro e w' ⟨rfl, rfl⟩))
  refine (works_any _).mono ?_
  rintro e w2 ⟨rfl, hb2⟩
  go_wp2_with fail
  refine (works_any _).mono ?_
  rintro e w3 ⟨rfl, hb3⟩
  go_wp2_with fail
  go_ret
  exact ⟨rfl, bstep (bstep (balloc _ _) (Nat.le_refl _) hb2) (Nat.le_refl _) hb3⟩

set_option maxHeartbeats 2000000 in
theorem quot_some (a b c : F) (w : World) (ha : ¬ a = 0) (q r : Bool) (hq : decide (b = 0) = q) (hr : decide (a * c = b) = r) :
    Calls Try.prog 9 #[.int .u16 a.nat, .int .u16 b.nat, .int .u16 c.nat] w fun e w' => e = .returned (.bool true) ∧ Below w.heap.size w w' := by
  have d1 : decide (a = 0) = false := decide_eq_false ha
  have d2 := feq0' ha
  have d3 := fne (show a * (b * F.inv a) = b by rw [F.mul_left_comm, F.mul_inv ha, F.mul_one])
  have d4 : decide (F.inv a = 0) = false := decide_eq_false (F.inv_ne_zero ha)
  have d5 := fne (F.inv_inv a)
  have d6 : decide (a * b = 0) = q := by
    rw [← hq]; congr 1; apply propext; rw [F.mul_eq_zero]
    exact ⟨fun h => h.resolve_left ha, .inr⟩
  have d7 := feq (F.inv_mul_rev a b)
  have d8 : ((b.nat : Int) != 0) = !q := by
    rw [← hq]
    by_cases h : b = 0
    · rw [fne0 h, decide_eq_true h]; rfl
    · rw [fne0' h, decide_eq_false h]; rfl
  have d9 : (((a * c : F).nat : Int) == (b.nat : Int)) = r := by
    rw [← hr]
    by_cases h : a * c = b
    · rw [feq h, decide_eq_true h]
    · rw [feq' h, decide_eq_false h]
  have d10 : ((c.nat : Int) == ((b * F.inv a : F).nat : Int)) = r := by
    rw [← hr]
    by_cases h : a * c = b
    · rw [feq (show c = b * F.inv a by rw [← h, F.mul_comm a c, F.mul_assoc, F.mul_inv ha, F.mul_one]), decide_eq_true h]
    · rw [feq' (show ¬ c = b * F.inv a from fun e => h (by rw [e, F.mul_left_comm, F.mul_inv ha, F.mul_one])), decide_eq_false h]
  clear ha hr
  go_enter Try.func9, Try.ntmps9
  go_wp2_with (first
    | (go_at_call 10; refine (new_any _).mono ?_; rintro e w' ⟨rfl, rfl⟩)
    | (go_at_call 18; refine (works_any _).mono ?_; rintro e w' ⟨rfl, hbw⟩)
    | (go_at_call 13; refine (mul_any _ _ _ _ _ _ rfl rfl).mono ?_; rintro e w' ⟨rfl, rfl⟩)
    | (go_at_call 11; refine (inv_any _ _ _ _ rfl).mono ?_; rintro e w' ⟨rfl, rfl⟩))
  all_goals
    go_ret
    exact ⟨rfl, bstep (balloc _ _) (Nat.le_refl _) hbw⟩
theorem quot_walk (a b c : F) (w : World) :
    Calls Try.prog 9 #[.int .u16 a.nat, .int .u16 b.nat, .int .u16 c.nat] w fun e w' => e = .returned (.bool true) ∧ Below w.heap.size w w' := by
  by_cases ha : a = 0
  · exact quot_zero a b c w ha
  · exact quot_some a b c w ha _ _ rfl rfl
end Go.Proofs.Ytgpfacaooiempaa
