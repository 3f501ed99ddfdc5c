/- The walks of the document's product, powers and inverses. -/
import Derived.Test.YtbahelhhkmonmaaFw
import Derived.Test.YtbahelhhkmonmaaGr
namespace Go.Proofs.Ytbahelhhkmonmaa
open Go.RowKit
set_option maxHeartbeats 400000 in
theorem rmul_any (x y : Int) (a b : F) (w : World) (hx : x = a.nat) (hy : y = b.nat) :
    Calls Try.prog 26 #[.int .u16 x, .int .u16 y] w fun e w' => e = .returned (.int .u16 (a * b).nat) ∧ w = w' := by
  subst hx hy
  have ha := a.nat_lt
  have hb := b.nat_lt
  go_enter Try.func26, Try.ntmps26
  go_wp2
  go_loop [5, 6] (fun p i => ∃ k : Nat, k ≤ 16 ∧ p = .int .u32 (rm1 a b k) ∧ i = .int .u32 k) (fun _ i => 16 - (intOf i).toNat)
  case atStart => exact ⟨0, by omega, rfl, rfl⟩
  case round =>
    obtain ⟨k, hk, rfl, rfl⟩ := hrel
    by_cases hlt : k < 16
    · go_wp2
      · go_round
        case rel => 
          refine ⟨k + 1, by omega, vint ?_, by go_num⟩
          rw [rm1_value a b k hlt, rm1, if_pos]
          rw [← sh_test]; assumption
        case measure => simp only [intOf]; omega
      · go_round
        case rel =>
          refine ⟨k + 1, by omega, vint ?_, by go_num⟩
          rw [rm1, if_neg]
          rw [← sh_test]; simp only [*]; simp
        case measure => simp only [intOf]; omega
    · obtain rfl : k = 16 := by omega
      have HR := Lib.hid (rm1_done a b)
      have hm0 := rm1_lt a b 16 (by omega)
      generalize rm1 a b 16 = m0 at HR hm0 ⊢
      go_wp2
      go_loop [5, 7] (fun p i => ∃ k m : Nat, 15 ≤ k ∧ k ≤ 31 ∧ m < 2 ^ (k + 1) ∧ red m = a * b ∧ p = .int .u32 m ∧ i = .int .u32 k) (fun _ i => (intOf i).toNat)
      case atStart => exact ⟨31, m0, by omega, by omega, hm0, HR.out, rfl, rfl⟩
      case round =>
        obtain ⟨k, m, hk, hk2, hm', hr, rfl, rfl⟩ := hrel
        have HM := Lib.hid hm'
        have HR2 := Lib.hid hr
        have hm := pow2_le hk2 hm'
        clear hr hm' HR hm0
        by_cases hlt : 16 ≤ k
        · have HS := Lib.hid (rm2_step m k _ hlt hk2 HM.out HR2.out)
          go_wp2
          · go_round
            case rel =>
              have hs := HS.out.1 (by rw [← sh_test]; assumption)
              exact ⟨k - 1, m ^^^ (69643 * 2 ^ (k - 16)), by omega, by omega, hs.1, hs.2, vint (rm2_value m k hm hlt hk2), vint (by omega)⟩
            case measure => simp only [intOf]; omega
          · go_round
            case rel =>
              have hs := HS.out.2 (by rw [← sh_test]; assumption)
              exact ⟨k - 1, m, by omega, by omega, hs, HR2.out, rfl, vint (by omega)⟩
            case measure => simp only [intOf]; omega
        · obtain rfl : k = 15 := by omega
          go_wp2
          go_ret
          exact ⟨eint (rm2_done m _ HM.out HR2.out), rfl⟩

set_option maxHeartbeats 400000 in
theorem rpower_any (N : Nat) : ∀ (x n : Int) (a : F) (w : World), x = a.nat → 0 ≤ n → n ≤ 9223372036854775807 → n < N →
    Calls Try.prog 62 #[.int .u16 x, .int .i64 n] w fun e w' => e = .returned (.int .u16 (F.pow a n.toNat).nat) ∧ w = w' := by
  induction N with
  | zero => intro x n a w _ h0 _ h; omega
  | succ N ih =>
    intro x n a w hx h0 hbig h
    obtain ⟨m, rfl⟩ := Int.eq_ofNat_of_zero_le h0
    subst hx
    have IH := Lib.hid ih
    clear ih
    by_cases hm : m = 0
    · subst hm
      go_enter Try.func62, Try.ntmps62
      go_wp2_with fail
      go_ret
      exact ⟨rfl, rfl⟩
    · have hz : ((m : Int) == 0) = false := by rw [beq_eq_false_iff_ne]; omega
      by_cases hodd : m % 2 = 1
      · have ho : ((m : Int) % 2 == 1) = true := by rw [beq_iff_eq]; omega
        have HODD := Lib.hid hodd
        clear hodd
        go_enter Try.func62, Try.ntmps62
        go_wp2_with (first
          | (go_at_call 62; refine (IH.out _ _ a _ rfl (by omega) (by omega) (by omega)).mono ?_; rintro e w' ⟨rfl, rfl⟩)
          | (go_at_call 26; refine (rmul_any _ _ _ _ _ rfl rfl).mono ?_; rintro e w' ⟨rfl, rfl⟩))
        go_ret
        refine ⟨eint ?_, rfl⟩
        rw [Int.toNat_natCast, rpow_odd a m HODD.out]
      · have ho : ((m : Int) % 2 == 1) = false := by rw [beq_eq_false_iff_ne]; omega
        have HODD := Lib.hid hodd
        clear hodd
        go_enter Try.func62, Try.ntmps62
        go_wp2_with (first
          | (go_at_call 62; refine (IH.out _ _ a _ rfl (by omega) (by omega) (by omega)).mono ?_; rintro e w' ⟨rfl, rfl⟩)
          | (go_at_call 26; refine (rmul_any _ _ _ _ _ rfl rfl).mono ?_; rintro e w' ⟨rfl, rfl⟩))
        go_ret
        refine ⟨eint ?_, rfl⟩
        rw [Int.toNat_natCast, rpow_even a m HODD.out]

set_option maxHeartbeats 400000 in
theorem rinv_any (x : Int) (a : F) (w : World) (hx : x = a.nat) :
    Calls Try.prog 46 #[.int .u16 x] w fun e w' => e = .returned (.tuple #[.int .u16 (F.inv a).nat, .bool (!decide (a = 0))]) ∧ w = w' := by
  subst hx
  by_cases h : a = 0
  · subst h
    go_enter Try.func46, Try.ntmps46
    go_wp2
    go_ret2
    exact ⟨rfl, rfl⟩
  · have hz : ((a.nat : Int) == 0) = false := by rw [beq_eq_false_iff_ne]; intro e; exact h (F.nat_eq_zero.1 (by omega))
    have H := Lib.hid h
    clear h
    go_enter Try.func46, Try.ntmps46
    go_wp2_with (go_at_call 62; refine (rpower_any 65535 _ _ a _ rfl (by omega) (by omega) (by omega)).mono ?_; rintro e w' ⟨rfl, rfl⟩)
    go_ret2
    exact ⟨by rw [decide_eq_false H.out]; rfl, rfl⟩

set_option maxHeartbeats 400000 in
theorem rexp_any (n : Int) (w : World) :
    Calls Try.prog 45 #[.int .i64 n] w fun e w' => e = .returned (.int .u16 (F.px (n % 65535).toNat).nat) ∧ w = w' := by
  obtain ⟨h1, h2⟩ := tmod_order n
  have HF := Lib.hid (tmod_form n)
  by_cases hneg : n.tmod 65535 < 0
  · go_enter Try.func45, Try.ntmps45
    go_wp2_with (go_at_call 62; refine (rpower_any 65535 _ _ (F.px 1) _ (by rfl) (by omega) (by omega) (by omega)).mono ?_; rintro e w' ⟨rfl, rfl⟩)
    go_ret
    refine ⟨eint ?_, rfl⟩
    rw [← F.px_eq_pow, HF.out.1 hneg]
  · go_enter Try.func45, Try.ntmps45
    go_wp2_with (go_at_call 62; refine (rpower_any 65535 _ _ (F.px 1) _ (by rfl) (by omega) (by omega) (by omega)).mono ?_; rintro e w' ⟨rfl, rfl⟩)
    go_ret
    refine ⟨eint ?_, rfl⟩
    rw [← F.px_eq_pow, HF.out.2 (by omega)]
end Go.Proofs.Ytbahelhhkmonmaa
