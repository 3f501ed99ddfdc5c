/- The walk of the statement FieldSquares. -/
import Derived.Test.YtgpfacaooiempaaWField
namespace Go.Proofs.Ytgpfacaooiempaa
open Go.RowKit

theorem sq_next {y a : F} {k : Nat} (hk : k < 16) (h : F.pow y (2 ^ (16 - k)) = a) : F.pow (y * y) (2 ^ (16 - (k + 1))) = a := by
  rw [← h, show 16 - k = (16 - (k + 1)) + 1 from by omega, Nat.pow_succ, Nat.mul_comm, F.pow_mul]
  congr 1
  rw [F.pow_succ, F.pow_one]
set_option maxHeartbeats 1000000 in
theorem squares_same (a b : F) (w : World) (hab : a = b) :
    Calls Try.prog 8 #[.int .u16 a.nat, .int .u16 b.nat] w fun e w' => e = .returned (.bool true) ∧ Below w.heap.size w w' := by
  have h1 := fne (F.sq_add a b)
  have h2 := feq (show a * a = b * b by rw [hab])
  have h3 := feq hab
  clear hab
  go_enter Try.func8, Try.ntmps8
  go_wp2_with (first
    | (go_at_call 18; refine (works_any _).mono ?_; rintro e w' ⟨rfl, hbw⟩)
    | (go_at_call 10; refine (new_any _).mono ?_; rintro e w' ⟨rfl, rfl⟩)
    | (go_at_call_of 13 (Value.int .u16 0); refine (mul_any _ _ _ _ (0 : F) _ rfl rfl).mono ?_; rintro e w' ⟨rfl, rfl⟩)
    | (go_at_call_of 13 (Value.int .u16 1); refine (mul_any _ _ _ _ (1 : F) _ rfl rfl).mono ?_; rintro e w' ⟨rfl, rfl⟩)
    | (go_at_call 13; refine (mul_any _ _ _ _ _ _ rfl rfl).mono ?_; rintro e w' ⟨rfl, rfl⟩)
    | (go_at_call_of 20 (Value.int .u16 0); refine (add_any _ _ _ _ (0 : F) _ rfl rfl).mono ?_; rintro e w' ⟨rfl, rfl⟩)
    | (go_at_call 20; refine (add_any _ _ _ _ _ _ rfl rfl).mono ?_; rintro e w' ⟨rfl, rfl⟩)
    | (go_at_call 11; refine (inv_any _ _ _ _ rfl).mono ?_; rintro e w' ⟨rfl, rfl⟩))
  go_loop [6, 7] (fun x i => ∃ (k : Nat) (y : F), k ≤ 16 ∧ x = .int .u16 y.nat ∧ i = .int .i64 k ∧ F.pow y (2 ^ (16 - k)) = a) (fun _ i => 16 - (intOf i).toNat)
  case atStart => exact ⟨0, a, by omega, rfl, rfl, F.pow_65536 a⟩
  case round =>
    obtain ⟨k, y, hk, rfl, rfl, hy⟩ := hrel
    have HY := Lib.hid hy
    clear hy
    by_cases hlt : k < 16
    · go_wp2_with (go_at_call 13; refine (mul_any _ _ _ _ _ _ rfl rfl).mono ?_; rintro e w' ⟨rfl, rfl⟩)
      go_round
      case rel => exact ⟨k + 1, y * y, by omega, rfl, by go_num, sq_next hlt HY.out⟩
      case measure => simp only [intOf]; omega
    · obtain rfl : k = 16 := by omega
      have ht := feq (show y = a by rw [← HY.out]; exact (F.pow_one y).symm)
      go_wp2
      go_ret
      exact ⟨rfl, hbw.alloc hbw.size _⟩
set_option maxHeartbeats 1000000 in
theorem squares_apart (a b : F) (w : World) (hab : ¬ a = b) :
    Calls Try.prog 8 #[.int .u16 a.nat, .int .u16 b.nat] w fun e w' => e = .returned (.bool true) ∧ Below w.heap.size w w' := by
  have h1 := fne (F.sq_add a b)
  have h2 := feq' (show ¬ a * a = b * b from fun e => hab (F.sq_inj e))
  have h3 := feq' hab
  clear hab
  go_enter Try.func8, Try.ntmps8
  go_wp2_with (first
    | (go_at_call 18; refine (works_any _).mono ?_; rintro e w' ⟨rfl, hbw⟩)
    | (go_at_call 10; refine (new_any _).mono ?_; rintro e w' ⟨rfl, rfl⟩)
    | (go_at_call_of 13 (Value.int .u16 0); refine (mul_any _ _ _ _ (0 : F) _ rfl rfl).mono ?_; rintro e w' ⟨rfl, rfl⟩)
    | (go_at_call_of 13 (Value.int .u16 1); refine (mul_any _ _ _ _ (1 : F) _ rfl rfl).mono ?_; rintro e w' ⟨rfl, rfl⟩)
    | (go_at_call 13; refine (mul_any _ _ _ _ _ _ rfl rfl).mono ?_; rintro e w' ⟨rfl, rfl⟩)
    | (go_at_call_of 20 (Value.int .u16 0); refine (add_any _ _ _ _ (0 : F) _ rfl rfl).mono ?_; rintro e w' ⟨rfl, rfl⟩)
    | (go_at_call 20; refine (add_any _ _ _ _ _ _ rfl rfl).mono ?_; rintro e w' ⟨rfl, rfl⟩)
    | (go_at_call 11; refine (inv_any _ _ _ _ rfl).mono ?_; rintro e w' ⟨rfl, rfl⟩))
  go_loop [6, 7] (fun x i => ∃ (k : Nat) (y : F), k ≤ 16 ∧ x = .int .u16 y.nat ∧ i = .int .i64 k ∧ F.pow y (2 ^ (16 - k)) = a) (fun _ i => 16 - (intOf i).toNat)
  case atStart => exact ⟨0, a, by omega, rfl, rfl, F.pow_65536 a⟩
  case round =>
    obtain ⟨k, y, hk, rfl, rfl, hy⟩ := hrel
    have HY := Lib.hid hy
    clear hy
    by_cases hlt : k < 16
    · go_wp2_with (go_at_call 13; refine (mul_any _ _ _ _ _ _ rfl rfl).mono ?_; rintro e w' ⟨rfl, rfl⟩)
      go_round
      case rel => exact ⟨k + 1, y * y, by omega, rfl, by go_num, sq_next hlt HY.out⟩
      case measure => simp only [intOf]; omega
    · obtain rfl : k = 16 := by omega
      have ht := feq (show y = a by rw [← HY.out]; exact (F.pow_one y).symm)
      go_wp2
      go_ret
      exact ⟨rfl, hbw.alloc hbw.size _⟩
end Go.Proofs.Ytgpfacaooiempaa
