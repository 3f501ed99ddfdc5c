/- The walk of the closed statement PolyNames. -/
import Derived.Test.YtneciddigglnmaaPl2
namespace Go.Proofs.Ytneciddigglnmaa
open Go.RowKit

theorem pn1 : shortL [fn 0, fn 0] = [] := by decide +kernel
theorem pn2 : DivOf [] [fn 5, fn 0] [] [] := div_make (by decide +kernel) (by decide +kernel) (by decide +kernel) (by decide +kernel) (by decide +kernel)
theorem pn2z : 0 < (shortL [fn 5, fn 0]).length := by decide +kernel
theorem pn3 : DivOf [fn 0, fn 4, fn 0] [fn 4] [fn 0, fn 1] [] := ⟨by unfold IsShort; decide +kernel, isShort_nil, by decide +kernel, by decide +kernel, fun x => by
  have h : shortL (addR (mulR [fn 0, fn 1] [fn 4]) []) = shortL [fn 0, fn 4, fn 0] := by decide +kernel
  rw [← pv_short [fn 0, fn 4, fn 0], ← h, pv_short, pv_addR, pv_mulR]⟩
theorem pn3z : 0 < (shortL [fn 4]).length := by decide +kernel
theorem pn4 : addL [fn 1, fn 2] [fn 1, fn 2, fn 0] = [] := by decide +kernel
theorem pn5 : mulL [] [fn 1] = [] := rfl
theorem pn6 : pv [] (fn 5) = 0 := rfl
theorem pn7 : pv [fn 9, fn 1] (fn 0) = fn 9 := by decide +kernel
theorem pn8 : slopeL [fn 7] = [] := by decide +kernel
theorem pn9 : ofL [] = [fn 1] := rfl

set_option maxRecDepth 100000 in
set_option maxHeartbeats 8000000 in
theorem pnames_walk (w : World) :
    Calls Try.prog 6 #[] w fun e w' => e = .returned (.bool true) ∧ Below w.heap.size w w' := by
  go_enter Try.func6, Try.ntmps6
  go_wp2_with fail
  refine (div_bad _ _ 1 2 1 2 [fn 1] [fn 0, fn 0] _ rfl rfl (by exact Rd.alloc (lit1 w _ _ _ rfl (by simp)) _) (by exact lit2 _ _ _ _ _ _ rfl rfl (by simp)) (by omega) (by omega) (by omega) (by omega) pn1).mono ?_
  rintro e w1 ⟨rfl, hb⟩
  have HB := Lib.hid (step2 (Below.refl w.heap.size w) hb)
  clear hb
  go_wp2_with fail
  refine (div_ok none _ 0 2 0 2 [] [fn 5, fn 0] _ rfl rfl Rd.nil (by exact lit2 w1 _ _ _ _ _ rfl rfl (by simp)) (by omega) (by omega) (by omega) (by omega) pn2z).mono ?_
  rintro e w2 ⟨A1, A2, c1, c2, q, r, rfl, hq, hr, hb, hd⟩
  obtain ⟨rfl, rfl⟩ := div_unique hd pn2 (by simp) (by simp)
  replace HB := Lib.hid (step1 HB.out hb)
  clear hq hr hb hd
  dsimp only [List.length_nil]
  go_wp2_with fail
  refine (div_ok _ _ 3 1 3 1 [fn 0, fn 4, fn 0] [fn 4] _ rfl rfl (by exact Rd.alloc (lit3 w2 _ _ _ _ _ _ _ rfl rfl rfl (by simp)) _) (by exact lit1 _ _ _ _ rfl (by simp)) (by omega) (by omega) (by omega) (by omega) pn3z).mono ?_
  rintro e w3 ⟨A3, A4, c3, c4, q, r, rfl, hq, hr, hb, hd⟩
  obtain ⟨rfl, rfl⟩ := div_unique hd pn3 (by simp) (by simp)
  replace HB := Lib.hid (step2 HB.out hb)
  have Q := Lib.hid hq.rd
  clear hq hr hb hd
  dsimp only [List.length_nil, List.length_cons]
  go_wp2_with fail
  refine (same_any A3 _ 2 c3 2 2 _ _ [fn 0, fn 1] [fn 0, fn 1] _ rfl rfl (by exact Q.out.alloc _) (by exact lit2 w3 _ _ _ _ _ rfl rfl (by simp)) (Nat.le_refl _) (Nat.le_refl _) (by unfold maxLen; omega)).mono ?_
  rw [decide_eq_true rfl]
  rintro e w4 ⟨rfl, hb⟩
  replace HB := Lib.hid (step1 HB.out hb)
  clear Q hb
  go_wp2_with fail
  refine (short_any _ 2 2 [fn 0, fn 0] _ rfl (by exact lit2 w4 _ _ _ _ _ rfl rfl (by simp)) (by omega) (by omega)).mono ?_
  rw [pn1]
  rintro e w5 ⟨A5, c5, rfl, hm, hb⟩
  dsimp only [List.length_nil]
  replace HB := Lib.hid (step1 HB.out hb)
  clear hm hb
  go_wp2_with fail
  refine (padd_any _ _ 2 3 2 3 [fn 1, fn 2] [fn 1, fn 2, fn 0] _ rfl rfl (by exact Rd.alloc (lit2 w5 _ _ _ _ _ rfl rfl (by simp)) _) (by exact lit3 _ _ _ _ _ _ _ _ rfl rfl rfl (by simp)) (by omega) (by omega)).mono ?_
  rw [pn4]
  rintro e w6 ⟨A6, c6, rfl, hm, hb⟩
  dsimp only [List.length_nil]
  replace HB := Lib.hid (step2 HB.out hb)
  clear hm hb
  go_wp2_with fail
  refine (pmul_any none _ 0 1 0 1 [] [fn 1] _ rfl rfl Rd.nil (by exact lit1 w6 _ _ _ rfl (by simp)) (by omega)).mono ?_
  rw [pn5]
  rintro e w7 ⟨A7, c7, rfl, hm, hb⟩
  dsimp only [List.length_nil]
  replace HB := Lib.hid (step1 HB.out hb)
  clear hm hb
  go_wp2_with fail
  refine (at_k none 0 0 [] (fn 5) 5 _ rfl rfl (by omega) Rd.nil).mono ?_
  rw [pn6, show ((0 : F).nat : Int) = 0 from rfl]
  rintro e w8 ⟨rfl, hb⟩
  replace HB := Lib.hid (bstep HB.out (Nat.le_refl _) hb)
  clear hb
  go_wp2_with fail
  refine (at_k _ 2 2 [fn 9, fn 1] (fn 0) 0 _ rfl rfl (by omega) (by exact lit2 w8 _ _ _ _ _ rfl rfl (by simp))).mono ?_
  rw [pn7, show ((fn 9).nat : Int) = 9 from rfl]
  rintro e w9 ⟨rfl, hb⟩
  replace HB := Lib.hid (step1 HB.out hb)
  clear hb
  go_wp2_with fail
  refine (slope_any _ 1 1 [fn 7] _ rfl (by exact lit1 w9 _ _ _ rfl (by simp)) (by omega) (by omega) (by unfold maxLen; omega)).mono ?_
  rw [pn8]
  rintro e w10 ⟨A8, c8, rfl, hm, hb⟩
  dsimp only [List.length_nil]
  replace HB := Lib.hid (step1 HB.out hb)
  clear hm hb
  go_wp2_with fail
  refine (of_any none 0 0 [] _ rfl Rd.nil (by omega)).mono ?_
  rw [pn9]
  rintro e w11 ⟨A9, c9, rfl, hm, hb⟩
  dsimp only [List.length_nil, List.length_cons]
  replace HB := Lib.hid (bstep HB.out (Nat.le_refl _) hb)
  have M := Lib.hid hm.rd
  clear hm hb
  go_wp2_with fail
  refine (same_any A9 _ 1 c9 1 1 _ _ [fn 1] [fn 1] _ rfl rfl (by exact M.out.alloc _) (by exact lit1 w11 _ _ _ rfl (by simp)) (Nat.le_refl _) (Nat.le_refl _) (by unfold maxLen; omega)).mono ?_
  rw [decide_eq_true rfl]
  rintro e w12 ⟨rfl, hb⟩
  replace HB := Lib.hid (step1 HB.out hb)
  clear M hb
  go_wp2_with fail
  refine (awake_any _).mono ?_
  rintro e w13 ⟨rfl, hb⟩
  replace HB := Lib.hid (bstep HB.out (Nat.le_refl _) hb)
  clear hb
  go_wp2_with fail
  go_ret
  exact ⟨rfl, HB.out⟩
end Go.Proofs.Ytneciddigglnmaa
