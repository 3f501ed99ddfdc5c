/- The walk of the statement FieldTells. -/
import Derived.Test.YtgpfacaooiempaaWField
namespace Go.Proofs.Ytgpfacaooiempaa
open Go.RowKit

set_option maxHeartbeats 1000000 in
theorem tells_walk (a b : F) (n : Int) (w : World) :
    Calls Try.prog 5 #[.int .u16 a.nat, .int .u16 b.nat, .int .i64 n] w fun e w' => e = .returned (.bool true) ∧ Below w.heap.size w w' := by
  have h1 : (((a + b : F).nat : Int) == bits .xor .u16 (a.nat : Int) (b.nat : Int)) = true := by rw [bits_xor]; exact beq_self_eq_true _
  go_enter Try.func5, Try.ntmps5
  go_wp2_with (first
    | (go_at_call 18; refine (works_any _).mono ?_; rintro e w' ⟨rfl, hbw⟩)
    | (go_at_call 10; refine (new_any _).mono ?_; rintro e w' ⟨rfl, rfl⟩)
    | (go_at_call_of 13 (Value.int .u16 0); refine (mul_any _ _ _ _ (0 : F) _ rfl rfl).mono ?_; rintro e w' ⟨rfl, rfl⟩)
    | (go_at_call_of 13 (Value.int .u16 1); refine (mul_any _ _ _ _ (1 : F) _ rfl rfl).mono ?_; rintro e w' ⟨rfl, rfl⟩)
    | (go_at_call 13; refine (mul_any _ _ _ _ _ _ rfl rfl).mono ?_; rintro e w' ⟨rfl, rfl⟩)
    | (go_at_call_of 20 (Value.int .u16 0); refine (add_any _ _ _ _ (0 : F) _ rfl rfl).mono ?_; rintro e w' ⟨rfl, rfl⟩)
    | (go_at_call 20; refine (add_any _ _ _ _ _ _ rfl rfl).mono ?_; rintro e w' ⟨rfl, rfl⟩)
    | (go_at_call 11; refine (inv_any _ _ _ _ rfl).mono ?_; rintro e w' ⟨rfl, rfl⟩)
    | (go_at_call 15; refine (exp_any _ _ _).mono ?_; rintro e w' ⟨rfl, rfl⟩)
    | (go_at_call 14; refine (rmul_any _ _ _ _ _ rfl rfl).mono ?_; rintro e w' ⟨rfl, rfl⟩)
    | (go_at_call 12; refine (rinv_any _ _ _ rfl).mono ?_; rintro e w' ⟨rfl, rfl⟩)
    | (go_at_call 16; refine (rexp_any _ _).mono ?_; rintro e w' ⟨rfl, rfl⟩)
    | (go_at_call 17; refine (log_any _ _ b _ rfl).mono ?_; rintro e w' ⟨rfl, hb⟩)
    | (go_at_call 19; refine (rlog_any _ b _ rfl).mono ?_; rintro e w' ⟨rfl, rfl⟩))
  go_ret
  exact ⟨rfl, bstep (balloc _ _) (Nat.le_refl _) hb⟩
end Go.Proofs.Ytgpfacaooiempaa
