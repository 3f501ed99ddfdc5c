/- The walks of the field's functions: each call comes to what the plain field says. -/
import Derived.Test.YthejbmjleohlfaaProg
import Derived.Test.YthejbmjleohlfaaGi
import Derived.WalkKit
import Derived.ProofKit
import Derived.BigFrame
import Derived.BigQuiet
import Derived.Deep.QuietTactic
import Derived.Outline
import Derived.Lib.Hide
namespace Go.Proofs.Ythejbmjleohlfaa
open Go.RowKit

set_option maxHeartbeats 400000 in
theorem times_any (x y : Int) (a b : F) (w : World) (hx : x = a.nat) (hy : y = b.nat) :
    Calls Try.prog 48 #[.int .u16 x, .int .u16 y, .int .i64 16, .int .u16 4107] w fun e w' => e = .returned (.int .u16 (a * b).nat) ∧ w = w' := by
  subst hx hy
  go_enter Try.func48, Try.ntmps48
  go_wp2
  go_loop [0, 1, 9] (fun x y o => ∃ a' b' o' : F, x = .int .u16 a'.nat ∧ y = .int .u16 b'.nat ∧ o = .int .u16 o'.nat ∧ o' + a' * b' = a * b) (fun _ y _ => (intOf y).toNat)
  case atStart => exact ⟨a, b, 0, rfl, rfl, rfl, F.zero_add _⟩
  case round =>
    obtain ⟨a', b', o', rfl, rfl, rfl, ho⟩ := hrel
    have ha := a'.nat_lt
    have hb := b'.nat_lt
    have HO := Lib.hid ho
    clear ho
    go_wp2
    · go_round
      case rel => exact ⟨F.mx a', F.half b', o' + a', vint (u16_twice_xor a' (top_of a' ‹_›)), vhalf b', vxor o' a', times_odd HO.out (odd_of b' ‹_›)⟩
      case measure => have := half_lt (nz_of (n := b'.nat) ‹_›); rw [F.half_nat] at this; simp only [intOf]; omega
    · go_round
      case rel => exact ⟨F.mx a', F.half b', o' + a', vint (u16_twice a' (low_of a' ‹_›)), vhalf b', vxor o' a', times_odd HO.out (odd_of b' ‹_›)⟩
      case measure => have := half_lt (nz_of (n := b'.nat) ‹_›); rw [F.half_nat] at this; simp only [intOf]; omega
    · go_round
      case rel => exact ⟨F.mx a', F.half b', o', vint (u16_twice_xor a' (top_of a' ‹_›)), vhalf b', rfl, times_even HO.out (even_of b' ‹_›)⟩
      case measure => have := half_lt (nz_of (n := b'.nat) ‹_›); rw [F.half_nat] at this; simp only [intOf]; omega
    · go_round
      case rel => exact ⟨F.mx a', F.half b', o', vint (u16_twice a' (low_of a' ‹_›)), vhalf b', rfl, times_even HO.out (even_of b' ‹_›)⟩
      case measure => have := half_lt (nz_of (n := b'.nat) ‹_›); rw [F.half_nat] at this; simp only [intOf]; omega
    · have hz := z_of (n := b'.nat) ‹_›
      have hz2 := F.nat_eq_zero.1 hz
      have h := HO.out
      rw [hz2, F.mul_zero, F.add_zero] at h
      go_ret
      exact ⟨eint (by rw [h]), rfl⟩

set_option maxHeartbeats 400000 in
theorem mul_any (p : Value) (x y : Int) (a b : F) (w : World) (hx : x = a.nat) (hy : y = b.nat) :
    Calls Try.prog 36 #[p, .int .u16 x, .int .u16 y] w fun e w' => e = .returned (.int .u16 (a * b).nat) ∧ w = w' := by
  have HX := Lib.hid hx
  have HY := Lib.hid hy
  clear hx hy
  go_enter Try.func36, Try.ntmps36
  go_wp2_with (go_at_call 48; refine (times_any _ _ a b _ HX.out HY.out).mono ?_; rintro e w' ⟨rfl, rfl⟩)
  go_ret
  exact ⟨rfl, rfl⟩

set_option maxHeartbeats 400000 in
theorem add_any (p : Value) (x y : Int) (a b : F) (w : World) (hx : x = a.nat) (hy : y = b.nat) :
    Calls Try.prog 35 #[p, .int .u16 x, .int .u16 y] w fun e w' => e = .returned (.int .u16 (a + b).nat) ∧ w = w' := by
  subst hx hy
  go_enter Try.func35, Try.ntmps35
  go_wp2
  go_ret
  exact ⟨eint (bits_xor a b), rfl⟩

set_option maxHeartbeats 400000 in
theorem power_any (p : Value) (x : Int) (n : Int) (a : F) (w : World) (hx : x = a.nat) (h0 : 0 ≤ n) (h1 : n ≤ 9223372036854775807) :
    Calls Try.prog 59 #[p, .int .u16 x, .int .i64 n] w fun e w' => e = .returned (.int .u16 (F.pow a n.toNat).nat) ∧ w = w' := by
  obtain ⟨m, rfl⟩ := Int.eq_ofNat_of_zero_le h0
  subst hx
  go_enter Try.func59, Try.ntmps59
  go_wp2
  go_loop [1, 2, 7] (fun x n o => ∃ (a' o' : F) (k : Nat), k ≤ m ∧ x = .int .u16 a'.nat ∧ n = .int .i64 k ∧ o = .int .u16 o'.nat ∧ o' * F.pow a' k = F.pow a m) (fun _ n _ => (intOf n).toNat)
  case atStart => exact ⟨a, 1, m, Nat.le_refl _, rfl, rfl, rfl, F.one_mul _⟩
  case round =>
    obtain ⟨a', o', k, hk, rfl, rfl, rfl, ho⟩ := hrel
    have HO := Lib.hid ho
    clear ho
    by_cases hpos : 0 < k
    · by_cases hodd : k % 2 = 1
      · have hb : (bits .and .i64 (k : Int) 1 == 1) = true := by rw [i64_and_one, beq_iff_eq]; omega
        have HODD := Lib.hid hodd
        clear hodd
        go_wp2_with (go_at_call 36; refine (mul_any _ _ _ _ _ _ rfl rfl).mono ?_; rintro e w' ⟨rfl, rfl⟩)
        go_round
        case rel => exact ⟨a' * a', o' * a', k / 2, by omega, rfl, by go_num, rfl, pow_step_odd HO.out HODD.out⟩
        case measure => simp only [intOf]; omega
      · have hb : (bits .and .i64 (k : Int) 1 == 1) = false := by rw [i64_and_one, beq_eq_false_iff_ne]; omega
        have HODD := Lib.hid hodd
        clear hodd
        go_wp2_with (go_at_call 36; refine (mul_any _ _ _ _ _ _ rfl rfl).mono ?_; rintro e w' ⟨rfl, rfl⟩)
        go_round
        case rel => exact ⟨a' * a', o', k / 2, by omega, rfl, by go_num, rfl, pow_step_even HO.out HODD.out⟩
        case measure => simp only [intOf]; omega
    · have hz : k = 0 := by omega
      subst hz
      go_wp2
      go_ret
      have h := HO.out
      rw [F.pow_zero, F.mul_one] at h
      exact ⟨eint (by rw [h]), rfl⟩
set_option maxHeartbeats 400000 in
theorem new_any (w : World)  :
    Calls Try.prog 33 #[] w fun e w' => e = .returned (.pointer (some ⟨w.heap.size, 0, none⟩)) ∧ w' = w.alloc (.cells #[] 89) := by
  go_enter Try.func33, Try.ntmps33
  go_wp2
  go_ret
  exact ⟨rfl, rfl⟩
set_option maxHeartbeats 400000 in
theorem inv_any (p : Value) (x : Int) (a : F) (w : World) (hx : x = a.nat)  :
    Calls Try.prog 56 #[p, .int .u16 x] w fun e w' => e = .returned (.tuple #[.int .u16 (F.inv a).nat, .bool (!decide (a = 0))]) ∧ w = w' := by
  subst hx
  by_cases h : a = 0
  · subst h
    go_enter Try.func56, Try.ntmps56
    go_wp2
    go_ret2
    exact ⟨rfl, rfl⟩
  · have hz : ((a.nat : Int) == 0) = false := by rw [beq_eq_false_iff_ne]; intro e; exact h (F.nat_eq_zero.1 (by omega))
    have H := Lib.hid h
    clear h
    go_enter Try.func56, Try.ntmps56
    go_wp2_with (go_at_call 59; refine (power_any _ _ _ a _ rfl (by omega) (by omega)).mono ?_; rintro e w' ⟨rfl, rfl⟩)
    go_ret2
    exact ⟨by rw [decide_eq_false H.out]; rfl, rfl⟩
set_option maxHeartbeats 400000 in
theorem exp_any (p : Value) (n : Int) (w : World)  :
    Calls Try.prog 47 #[p, .int .i64 n] w fun e w' => e = .returned (.int .u16 (F.px (n % 65535).toNat).nat) ∧ w = w' := by
  obtain ⟨h1, h2⟩ := tmod_order n
  go_enter Try.func47, Try.ntmps47
  go_wp2_with (go_at_call 59; refine (power_any _ _ _ (F.px 1) _ (by rfl) (by omega) (by omega)).mono ?_; rintro e w' ⟨rfl, rfl⟩)
  go_ret
  refine ⟨eint ?_, rfl⟩
  rw [← F.px_eq_pow, tmod_again n]
end Go.Proofs.Ythejbmjleohlfaa
