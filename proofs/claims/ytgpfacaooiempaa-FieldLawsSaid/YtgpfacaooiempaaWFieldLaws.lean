/- The walk of the statement FieldLaws. -/
import Derived.Test.YtgpfacaooiempaaWField
namespace Go.Proofs.Ytgpfacaooiempaa
open Go.RowKit

set_option maxHeartbeats 1000000 in
theorem laws_zero (a b c : F) (w : World) (ha : a = 0) :
    Calls Try.prog 6 #[.int .u16 a.nat, .int .u16 b.nat, .int .u16 c.nat] w fun e w' => e = .returned (.bool true) ∧ Below w.heap.size w w' := by
  have h1 := fne (F.add_comm a b)
  have h2 := fne (F.mul_comm a b)
  have h3 := fne (F.add_assoc a b c)
  have h4 := fne (F.mul_assoc a b c)
  have h5 := fne (F.mul_add a b c)
  have h6 := fne (F.add_zero a)
  have h7 := fne0 (F.add_self a)
  have h8 := fne (F.mul_one a)
  have h9 := fne0 (F.mul_zero a)
  have d1 : decide (a = 0) = true := decide_eq_true ha
  have d2 := feq0 ha
  have d3 := fne0 ha
  have d4 := feq0 (show a * b = 0 by rw [ha, F.zero_mul])
  clear ha
  go_enter Try.func6, Try.ntmps6
  go_wp2_with (first
    | (go_at_call 18; refine (works_any _).mono ?_; rintro e w' ⟨rfl, hbw⟩)
    | (go_at_call 10; refine (new_any _).mono ?_; rintro e w' ⟨rfl, rfl⟩)
    | (go_at_call_of 13 (Value.int .u16 0); refine (mul_any _ _ _ _ (0 : F) _ rfl rfl).mono ?_; rintro e w' ⟨rfl, rfl⟩)
    | (go_at_call_of 13 (Value.int .u16 1); refine (mul_any _ _ _ _ (1 : F) _ rfl rfl).mono ?_; rintro e w' ⟨rfl, rfl⟩)
    | (go_at_call 13; refine (mul_any _ _ _ _ _ _ rfl rfl).mono ?_; rintro e w' ⟨rfl, rfl⟩)
    | (go_at_call_of 20 (Value.int .u16 0); refine (add_any _ _ _ _ (0 : F) _ rfl rfl).mono ?_; rintro e w' ⟨rfl, rfl⟩)
    | (go_at_call 20; refine (add_any _ _ _ _ _ _ rfl rfl).mono ?_; rintro e w' ⟨rfl, rfl⟩)
    | (go_at_call 11; refine (inv_any _ _ _ _ rfl).mono ?_; rintro e w' ⟨rfl, rfl⟩))
  go_ret
  exact ⟨rfl, bstep (balloc _ _) (Nat.le_refl _) hbw⟩
set_option maxHeartbeats 1000000 in
theorem laws_b (a b c : F) (w : World) (ha : ¬ a = 0) (hb : b = 0) :
    Calls Try.prog 6 #[.int .u16 a.nat, .int .u16 b.nat, .int .u16 c.nat] w fun e w' => e = .returned (.bool true) ∧ Below w.heap.size w w' := by
  have h1 := fne (F.add_comm a b)
  have h2 := fne (F.mul_comm a b)
  have h3 := fne (F.add_assoc a b c)
  have h4 := fne (F.mul_assoc a b c)
  have h5 := fne (F.mul_add a b c)
  have h6 := fne (F.add_zero a)
  have h7 := fne0 (F.add_self a)
  have h8 := fne (F.mul_one a)
  have h9 := fne0 (F.mul_zero a)
  have d1 : decide (a = 0) = false := decide_eq_false ha
  have d2 := feq0' ha
  have d3 := fne0' ha
  have d4 := feq0 (show a * b = 0 by rw [hb, F.mul_zero])
  have d5 := feq0 hb
  have d6 := feq1 (F.mul_inv ha)
  clear ha hb
  go_enter Try.func6, Try.ntmps6
  go_wp2_with (first
    | (go_at_call 18; refine (works_any _).mono ?_; rintro e w' ⟨rfl, hbw⟩)
    | (go_at_call 10; refine (new_any _).mono ?_; rintro e w' ⟨rfl, rfl⟩)
    | (go_at_call_of 13 (Value.int .u16 0); refine (mul_any _ _ _ _ (0 : F) _ rfl rfl).mono ?_; rintro e w' ⟨rfl, rfl⟩)
    | (go_at_call_of 13 (Value.int .u16 1); refine (mul_any _ _ _ _ (1 : F) _ rfl rfl).mono ?_; rintro e w' ⟨rfl, rfl⟩)
    | (go_at_call 13; refine (mul_any _ _ _ _ _ _ rfl rfl).mono ?_; rintro e w' ⟨rfl, rfl⟩)
    | (go_at_call_of 20 (Value.int .u16 0); refine (add_any _ _ _ _ (0 : F) _ rfl rfl).mono ?_; rintro e w' ⟨rfl, rfl⟩)
    | (go_at_call 20; refine (add_any _ _ _ _ _ _ rfl rfl).mono ?_; rintro e w' ⟨rfl, rfl⟩)
    | (go_at_call 11; refine (inv_any _ _ _ _ rfl).mono ?_; rintro e w' ⟨rfl, rfl⟩))
  go_ret
  exact ⟨rfl, bstep (balloc _ _) (Nat.le_refl _) hbw⟩
set_option maxHeartbeats 1000000 in
theorem laws_ab (a b c : F) (w : World) (ha : ¬ a = 0) (hb : ¬ b = 0) :
    Calls Try.prog 6 #[.int .u16 a.nat, .int .u16 b.nat, .int .u16 c.nat] w fun e w' => e = .returned (.bool true) ∧ Below w.heap.size w w' := by
  have h1 := fne (F.add_comm a b)
  have h2 := fne (F.mul_comm a b)
  have h3 := fne (F.add_assoc a b c)
  have h4 := fne (F.mul_assoc a b c)
  have h5 := fne (F.mul_add a b c)
  have h6 := fne (F.add_zero a)
  have h7 := fne0 (F.add_self a)
  have h8 := fne (F.mul_one a)
  have h9 := fne0 (F.mul_zero a)
  have d1 : decide (a = 0) = false := decide_eq_false ha
  have d2 := feq0' ha
  have d3 := fne0' ha
  have d4 := feq0' (F.mul_ne_zero ha hb)
  have d5 := feq0' hb
  have d6 := feq1 (F.mul_inv ha)
  clear ha hb
  go_enter Try.func6, Try.ntmps6
  go_wp2_with (first
    | (go_at_call 18; refine (works_any _).mono ?_; rintro e w' ⟨rfl, hbw⟩)
    | (go_at_call 10; refine (new_any _).mono ?_; rintro e w' ⟨rfl, rfl⟩)
    | (go_at_call_of 13 (Value.int .u16 0); refine (mul_any _ _ _ _ (0 : F) _ rfl rfl).mono ?_; rintro e w' ⟨rfl, rfl⟩)
    | (go_at_call_of 13 (Value.int .u16 1); refine (mul_any _ _ _ _ (1 : F) _ rfl rfl).mono ?_; rintro e w' ⟨rfl, rfl⟩)
    | (go_at_call 13; refine (mul_any _ _ _ _ _ _ rfl rfl).mono ?_; rintro e w' ⟨rfl, rfl⟩)
    | (go_at_call_of 20 (Value.int .u16 0); refine (add_any _ _ _ _ (0 : F) _ rfl rfl).mono ?_; rintro e w' ⟨rfl, rfl⟩)
    | (go_at_call 20; refine (add_any _ _ _ _ _ _ rfl rfl).mono ?_; rintro e w' ⟨rfl, rfl⟩)
    | (go_at_call 11; refine (inv_any _ _ _ _ rfl).mono ?_; rintro e w' ⟨rfl, rfl⟩))
  go_ret
  exact ⟨rfl, bstep (balloc _ _) (Nat.le_refl _) hbw⟩
theorem laws_walk (a b c : F) (w : World) :
    Calls Try.prog 6 #[.int .u16 a.nat, .int .u16 b.nat, .int .u16 c.nat] w fun e w' => e = .returned (.bool true) ∧ Below w.heap.size w w' := by
  by_cases ha : a = 0
  · exact laws_zero a b c w ha
  · by_cases hb : b = 0
    · exact laws_b a b c w ha hb
    · exact laws_ab a b c w ha hb
end Go.Proofs.Ytgpfacaooiempaa
