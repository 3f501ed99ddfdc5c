/- The walks of the document's product, powers and inverses. -/
import Derived.Test.YtnbekifcajmdkaaFw
import Derived.Test.YtnbekifcajmdkaaGr
namespace Go.Proofs.Ytnbekifcajmdkaa
open Go.RowKit
set_option maxHeartbeats 400000 in
theorem rmul_any (x y : Int) (a b : F) (w : World) (hx : x = a.nat) (hy : y = b.nat) :
    Calls Try.prog 26 #[.int .u16 x, .int .u16 y] w fun e w' => e = .returned (.int .u16 (a * b).nat) ∧ w = w' := by
  subst hx hy
  have ha := a.nat_lt
  have hb := b.nat_lt
  go_enter Try.func26, Try.ntmps26
  go_wp2
  go_loop [5, 6] (fun p i => ∃ k : Nat, k ≤ 16 ∧ p = .int .u32 (rm1 a b k) ∧ i = .int .u32 k) (fun _ i => 16 - (intOf i).toNat)
  case atStart => exact ⟨0, by omega, rfl, rfl⟩
  case round =>
    obtain ⟨k, hk, rfl, rfl⟩ := hrel
    by_cases hlt : k < 16
    · go_wp2
      · go_round
        case rel => 
          refine ⟨k + 1, by omega, vint ?_, by go_num⟩
          rw [rm1_value a b k hlt, rm1, if_pos]
          rw [← sh_test]; assumption
        case measure => simp only [intOf]; omega
      · go_round
        case rel =>
          refine ⟨k + 1, by omega, vint ?_, by go_num⟩
          rw [rm1, if_neg]
          rw [← sh_test]; simp only [*]; simp
        case measure => simp only [intOf]; omega
    · obtain rfl : k = 16 := by omega
      have HR := Lib.hid (rm1_done a b)
      have hm0 := rm1_lt a b 16 (by omega)
      generalize rm1 a b 16 = m0 at HR hm0 ⊢
      go_wp2
      go_loop [5, 7] (fun p i => ∃ k m : Nat, 15 ≤ k ∧ k ≤ 31 ∧ m < 2 ^ (k + 1) ∧ red m = a * b ∧ p = .int .u32 m ∧ i = .int .u32 k) (fun _ i => (intOf i).toNat)
      case atStart => exact ⟨31, m0, by omega, by omega, hm0, HR.out, rfl, rfl⟩
      case round =>
        obtain ⟨k, m, hk, hk2, hm', hr, rfl, rfl⟩ := hrel
        have HM := Lib.hid hm'
        have HR2 := Lib.hid hr
        have hm := pow2_le hk2 hm'
        clear hr hm' HR hm0
        by_cases hlt : 16 ≤ k
        · have HS := Lib.hid (rm2_step m k _ hlt hk2 HM.out HR2.out)
          go_wp2
          · go_round
            case rel =>
              have hs := HS.out.1 (by rw [← sh_test]; assumption)
              exact ⟨k - 1, m ^^^ (69643 * 2 ^ (k - 16)), by omega, by omega, hs.1, hs.2, vint (rm2_value m k hm hlt hk2), vint (by omega)⟩
            case measure => simp only [intOf]; omega
          · go_round
            case rel =>
              have hs := HS.out.2 (by rw [← sh_test]; assumption)
              exact ⟨k - 1, m, by omega, by omega, hs, HR2.out, rfl, vint (by omega)⟩
            case measure => simp only [intOf]; omega
        · obtain rfl : k = 15 := by omega
          go_wp2
          go_ret
          exact ⟨eint (rm2_done m _ HM.out HR2.out), rfl⟩



end Go.Proofs.Ytnbekifcajmdkaa
