/- The walk of the statement FieldPowers: powers of x, and logs. -/
import Derived.Test.YtgpfacaooiempaaWField
namespace Go.Proofs.Ytgpfacaooiempaa
open Go.RowKit

/-- A power of x, whatever whole number. -/
def F.ex (n : Int) : F := F.px (n % 65535).toNat
theorem F.ex_nat (n : Nat) : F.ex (n : Int) = F.px n := by
  unfold F.ex
  rw [F.px_mod n]
  congr 1
theorem F.ex_mod (n m : Int) (h : n % 65535 = m % 65535) : F.ex n = F.ex m := by unfold F.ex; rw [h]
theorem F.ex_add (n m : Int) : F.ex (n + m) = F.ex n * F.ex m := by
  have e : F.ex (n + m) = F.ex (((n % 65535).toNat + (m % 65535).toNat : Nat) : Int) := F.ex_mod _ _ (by omega)
  rw [e, F.ex_nat, F.px_add]; rfl
theorem F.ex_zero : F.ex 0 = 1 := F.ex_nat 0
theorem F.ex_neg (n : Int) : F.ex n * F.ex (-n) = 1 := by rw [← F.ex_add, Int.add_right_neg, F.ex_zero]
theorem F.ex_logn {a : F} (h : ¬ a = 0) : F.ex (F.logn a : Int) = a := by rw [F.ex_nat]; exact F.px_logn h
theorem F.logn_mul {a b : F} (ha : ¬ a = 0) (hb : ¬ b = 0) : F.logn (a * b) = F.logn a + F.logn b ∨ F.logn (a * b) + 65535 = F.logn a + F.logn b := by
  have h1 := F.logn_lt a
  have h2 := F.logn_lt b
  have e : a * b = F.px (F.logn a + F.logn b) := by rw [F.px_add, F.px_logn ha, F.px_logn hb]
  by_cases h : F.logn a + F.logn b < 65535
  · left; rw [e]; exact F.logn_px h
  · right
    have : F.px (F.logn a + F.logn b) = F.px (F.logn a + F.logn b - 65535) := by
      have h3 : F.logn a + F.logn b = (F.logn a + F.logn b - 65535) + 65535 := by omega
      generalize F.logn a + F.logn b - 65535 = r at h3 ⊢
      rw [h3, F.px_add, F.px_order, F.mul_one]
    rw [e, this, F.logn_px (by omega)]; omega

theorem exp_ex (p : Value) (n : Int) (w : World) : Calls Try.prog 15 #[p, .int .i64 n] w fun e w' => e = .returned (.int .u16 (F.ex n).nat) ∧ w = w' := exp_any p n w
theorem tmod40 (n : Int) : -1099511627776 < n.tmod 1099511627776 ∧ n.tmod 1099511627776 < 1099511627776 := by
  rcases Int.le_total 0 n with h | h
  · have e := Int.tmod_eq_emod_of_nonneg (a := n) (b := 1099511627776) h
    exact ⟨by omega, by omega⟩
  · have e := Int.tmod_eq_emod_of_nonneg (a := -n) (b := 1099511627776) (by omega)
    rw [Int.neg_tmod] at e
    exact ⟨by omega, by omega⟩

/-- What the last test asks of the logs. -/
def LogsFit (x y z : Nat) : Prop := z = x + y ∨ z + 65535 = x + y
set_option maxHeartbeats 2000000 in
theorem powers_walk (n m : Int) (a b : F) (w : World) :
    Calls Try.prog 7 #[.int .i64 n, .int .i64 m, .int .u16 a.nat, .int .u16 b.nat] w fun e w' => e = .returned (.bool true) ∧ Below w.heap.size w w' := by
  obtain ⟨hn1, hn2⟩ := tmod40 n
  obtain ⟨hm1, hm2⟩ := tmod40 m
  go_enter Try.func7, Try.ntmps7
  go_wp2_with (first
    | (go_at_call 18; refine (works_any _).mono ?_; rintro e w' ⟨rfl, hbw⟩)
    | (go_at_call 10; refine (new_any _).mono ?_; rintro e w' ⟨rfl, rfl⟩))
  generalize n.tmod 1099511627776 = n' at *
  generalize m.tmod 1099511627776 = m' at *
  have t1 := fne (F.ex_add n' m')
  have t2 := fne1 (F.ex_neg n')
  refine (log_any _ _ a _ rfl).mono ?_
  rintro e w2 ⟨rfl, hb2⟩
  go_wp2_with fail
  refine (log_any _ _ b _ rfl).mono ?_
  rintro e w3 ⟨rfl, hb3⟩
  go_wp2_with fail
  refine (mul_any _ _ _ a b _ rfl rfl).mono ?_
  rintro e w' ⟨rfl, rfl⟩
  go_wp2_with fail
  refine (log_any _ _ (a * b) _ rfl).mono ?_
  rintro e w4 ⟨rfl, hb4⟩
  have hbel : Below w.heap.size w w4 := bstep (bstep (bstep (hbw.alloc hbw.size _) (Nat.le_refl _) hb2) (Nat.le_refl _) hb3) (Nat.le_refl _) hb4
  clear hb2 hb3 hb4 hbw
  have HM := Lib.hid (fun ha hb => F.logn_mul (a := a) (b := b) ha hb)
  have s1 : decide ((F.logn a : Int) < 0) = false := by simp
  have s2 : decide ((65534 : Int) < (F.logn a : Int)) = false := by have := F.logn_lt a; simp; omega
  have hx : (F.logn a : Int) ≤ 65535 := by have := F.logn_lt a; omega
  have hy : (F.logn b : Int) ≤ 65535 := by have := F.logn_lt b; omega
  by_cases ha : a = 0
  · have d1 : decide (a = 0) = true := decide_eq_true ha
    have d2 := fne0 ha
    have d3 : decide (a * b = 0) = true := decide_eq_true (by rw [ha, F.zero_mul])
    clear ha HM
    go_wp2_with (first
      | (go_at_call 15; refine (exp_ex _ _ _).mono ?_; rintro e w' ⟨rfl, rfl⟩)
      | (go_at_call 13; refine (mul_any _ _ _ _ _ _ rfl rfl).mono ?_; rintro e w' ⟨rfl, rfl⟩))
    go_ret
    exact ⟨rfl, hbel⟩
  · have d1 : decide (a = 0) = false := decide_eq_false ha
    have d2 := fne0' ha
    have d6 := fne (F.ex_logn ha)
    by_cases hb : b = 0
    · have d3 : decide (a * b = 0) = true := decide_eq_true (by rw [hb, F.mul_zero])
      have d4 : decide (b = 0) = true := decide_eq_true hb
      clear ha hb HM
      go_wp2_with (first
        | (go_at_call 15; refine (exp_ex _ _ _).mono ?_; rintro e w' ⟨rfl, rfl⟩)
        | (go_at_call 13; refine (mul_any _ _ _ _ _ _ rfl rfl).mono ?_; rintro e w' ⟨rfl, rfl⟩))
      go_ret
      exact ⟨rfl, hbel⟩
    · have d3 : decide (a * b = 0) = false := decide_eq_false (F.mul_ne_zero ha hb)
      have d4 : decide (b = 0) = false := decide_eq_false hb
      rcases HM.out ha hb with h | h
      · have d5 : ((F.logn (a * b) : Int) == (F.logn a : Int) + (F.logn b : Int)) = true := by rw [beq_iff_eq]; omega
        clear ha hb HM h
        go_wp2_with (first
          | (go_at_call 15; refine (exp_ex _ _ _).mono ?_; rintro e w' ⟨rfl, rfl⟩)
          | (go_at_call 13; refine (mul_any _ _ _ _ _ _ rfl rfl).mono ?_; rintro e w' ⟨rfl, rfl⟩))
        go_ret
        exact ⟨rfl, hbel⟩
      · have d5 : ((F.logn (a * b) : Int) == (F.logn a : Int) + (F.logn b : Int)) = false := by rw [beq_eq_false_iff_ne]; omega
        have d7 : ((F.logn (a * b) : Int) == (F.logn a : Int) + (F.logn b : Int) - 65535) = true := by rw [beq_iff_eq]; omega
        clear ha hb HM h
        go_wp2_with (first
          | (go_at_call 15; refine (exp_ex _ _ _).mono ?_; rintro e w' ⟨rfl, rfl⟩)
          | (go_at_call 13; refine (mul_any _ _ _ _ _ _ rfl rfl).mono ?_; rintro e w' ⟨rfl, rfl⟩))
        go_ret
        exact ⟨rfl, hbel⟩
end Go.Proofs.Ytgpfacaooiempaa
