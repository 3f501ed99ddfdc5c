/- Logs: what they are, and what a map of the first powers of x tells. -/
import Derived.Test.YthejbmjleohlfaaGi
import Derived.WalkKit
import Derived.ProofKit
import Derived.Maps.OwnOps
import Derived.Maps.OwnSet
import Derived.Maps.Views
namespace Go.Proofs.Ythejbmjleohlfaa
open Go.RowKit Go.Maps

/-- The log of a number (of 0: 0). -/
noncomputable def F.logn (a : F) : Nat := if h : a = 0 then 0 else Classical.choose (F.log_ex a h)
theorem F.logn_zero : F.logn 0 = 0 := by unfold F.logn; rw [dif_pos rfl]
theorem F.logn_lt (a : F) : F.logn a < 65535 := by
  unfold F.logn
  split
  · omega
  · rename_i h; exact (Classical.choose_spec (F.log_ex a h)).1
theorem F.px_logn {a : F} (h : a ≠ 0) : F.px (F.logn a) = a := by
  unfold F.logn
  rw [dif_neg h]
  exact (Classical.choose_spec (F.log_ex a h)).2
theorem F.logn_px {n : Nat} (h : n < 65535) : F.logn (F.px n) = n := F.px_inj (F.logn_lt _) h (F.px_logn (F.px_ne_zero n))

theorem F.wf16 (a : F) : (Lit.int .u16 (a.nat : Int)).wf = true := WalkArith.wf_u16 ⟨by omega, by have := a.nat_lt; omega⟩

/-- The key of a number of the field. -/
def fk (a : F) : Lit := .int .u16 (a.nat : Int)
theorem fk_inj {a b : F} (h : fk a = fk b) : a = b := by
  unfold fk at h
  injection h with _ h
  exact F.nat_inj (by omega)
theorem fk_key (a : F) : WideAt.IsKeyLit (fk a) := trivial

/-- The map of the first k powers of x. -/
def Sm : Nat → DataW Unit
  | 0 => .map []
  | k + 1 => (Sm k).put (fk (F.px k)) (.lit (.int .i64 (k : Int)))
theorem Sm_isMap (k : Nat) : IsMap (Sm k) := by
  induction k with
  | zero => exact isMap_empty
  | succ k ih => exact ih.put _ _
theorem Sm_has (k : Nat) (i : Nat) (hi : i < k) : Maps.has (Sm k) (fk (F.px i)) = true := by
  induction k with
  | zero => omega
  | succ k ih =>
    rw [Sm]
    by_cases e : fk (F.px i) = fk (F.px k)
    · rw [e, has_put_same (Sm_isMap k) (fk_key _)]
    · rw [has_put_other e]
      refine ih ?_
      by_cases e2 : i = k
      · subst e2; exact absurd rfl e
      · omega
theorem Sm_has_not (k : Nat) (a : F) (h : ∀ i, i < k → F.px i ≠ a) : Maps.has (Sm k) (fk a) = false := by
  induction k with
  | zero => rfl
  | succ k ih =>
    rw [Sm, has_put_other (fun e => h k (by omega) (fk_inj e).symm)]
    exact ih fun i hi => h i (by omega)
theorem Sm_at (k : Nat) (hk : k ≤ 65535) (i : Nat) (hi : i < k) (z : DataW Unit) : (Sm k).atKey (fk (F.px i)) z = .lit (.int .i64 (i : Int)) := by
  induction k with
  | zero => omega
  | succ k ih =>
    rw [Sm]
    by_cases e : i = k
    · subst e; rw [atKey_put_same (Sm_isMap i) (fk_key _)]
    · rw [atKey_put_other (fun e2 => e (F.px_inj (by omega) (by omega) (fk_inj e2)))]
      exact ih (by omega) (by omega)

theorem back_step (m : Nat) (h : 256 ≤ m) : F.px m * F.px 65279 = F.px (m - 256) := by
  rw [← F.px_add, show m + 65279 = (m - 256) + 65535 from by omega, F.px_add, F.px_order, F.mul_one]
theorem back_is : F.px (((-256 : Int)) % 65535).toNat = F.px 65279 := by rfl
end Go.Proofs.Ythejbmjleohlfaa
