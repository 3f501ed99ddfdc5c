/- Sums, products, inverses and powers of one field, asked again and again for the numbers of any slice of at most 500 numbers, are the document's: the walk. -/
import Derived.Test.YtgpfacaooiempaaLw
import Derived.Test.YtgpfacaooiempaaRd
import Derived.Deep.QuietTactic
import Derived.BigQuiet
namespace Go.Proofs.Ytgpfacaooiempaa
open Go.RowKit

theorem qs {P : Program} {f : FuncId} {args : Array Value} {w : World} {n : Nat} {v : Value}
    (h : Calls P f args (w.drewN n) fun e w' => e = .returned v ∧ w.drewN n = w') : Calls P f args (w.drewN n) fun e w'' => e = .returned v ∧ ∃ m, w'' = w.drewN m :=
  h.mono fun _ _ ⟨he, hm⟩ => ⟨he, n, hm.symm⟩

set_option maxHeartbeats 400000 in
theorem rows_long (a : Option Addr) (len cap : Nat) (w : World) (h500 : 500 < len) :
    Calls Try.prog 3 #[.slice a len cap] w fun e w' => e = .returned (.bool true) ∧ Below w.heap.size w w' := by
  have ht : decide ((500 : Int) < len) = true := by simp; omega
  clear h500
  go_enter Try.func3, Try.ntmps3
  go_wp2
  go_ret
  exact ⟨rfl, Below.refl _ _⟩

set_option maxHeartbeats 1000000 in
theorem rows_short (a : Option Addr) (len cap : Nat) (l : List F) (w : World) (hl : l.length = len) (hr : Rd w w.heap.size a l) (h500 : len ≤ 500) :
    Calls Try.prog 3 #[.slice a len cap] w fun e w' => e = .returned (.bool true) ∧ Below w.heap.size w w' := by
  have HL := Lib.hid hl
  have HR := Lib.hid hr
  clear hl hr
  have ht : decide ((500 : Int) < len) = false := by simp; omega
  go_enter Try.func3, Try.ntmps3
  go_wp2_with (go_at_call 10; refine (new_any _).mono ?_; rintro e w' ⟨rfl, rfl⟩)
  go_loopw [4] (fun i wr => ∃ k : Nat, i = .int .i64 (k + 1 : Nat) ∧ Below w.heap.size w wr) (fun i _ => 501 - (intOf i).toNat)
  case atStart => exact ⟨0, rfl, (Below.refl _ _).alloc (Nat.le_refl _) _⟩
  case round =>
    obtain ⟨k, rfl, hbel⟩ := hrel
    by_cases hlt : k + 1 < len
    · obtain ⟨b, off, rfl, hb, hc⟩ := (HR.out.below hbel) (by rw [HL.out]; omega)
      have c1 : wr.cell? ⟨b, off + k, none⟩ = _ := hc k (by rw [HL.out]; omega)
      have c2 : wr.cell? ⟨b, off + (k + 1), none⟩ = _ := hc (k + 1) (by rw [HL.out]; omega)
      clear hc HR
      generalize l.getD k 0 = x at c1
      generalize l.getD (k + 1) 0 = y at c2
      have hk0 : (0 : Int) ≤ (k : Int) := by omega
      have hk1 : (k : Int) < (len : Int) := by omega
      have hk2 : ((k : Int) + 1) < (len : Int) := by omega
      have hk3 : (0 : Int) ≤ ((k : Int) + 1) := by omega
      have hk4 : ((k : Int) + 1).toNat = k + 1 := by omega
      have hw1 : IntKind.i64.wrap (k : Int) = (k : Int) := IntWalk.i64_in _ ⟨by omega, by omega⟩
      go_wp2_with (first
        | (go_at_call 11; refine (inv_any _ _ y _ rfl).mono ?_; rintro e w' ⟨rfl, rfl⟩)
        | (go_at_call 12; refine (rinv_any _ y _ rfl).mono ?_; rintro e w' ⟨rfl, rfl⟩))
      go_quiet (first
        | (go_at_call 13; exact qs (mul_any _ _ _ x y _ rfl rfl))
        | (go_at_call 14; exact qs (rmul_any _ _ x y _ rfl rfl))
        | (go_at_call 15; exact qs (exp_any _ _ _))
        | (go_at_call 16; exact qs (rexp_any _ _)))
      go_wp2
      go_roundw
      case rel => exact ⟨k + 1, by go_num, below_drewN hbel _⟩
      case measure => simp only [intOf]; omega
    · go_wp2
      go_ret
      exact ⟨rfl, hbel⟩
theorem rows_walk (a : Option Addr) (len cap : Nat) (l : List F) (w : World) (hl : l.length = len) (hr : Rd w w.heap.size a l) :
    Calls Try.prog 3 #[.slice a len cap] w fun e w' => e = .returned (.bool true) ∧ Below w.heap.size w w' := by
  by_cases h : len ≤ 500
  · exact rows_short a len cap l w hl hr h
  · exact rows_long a len cap w (by omega)
end Go.Proofs.Ytgpfacaooiempaa
