/- The walk of the closed statement RsNames. -/
import Derived.Test.YtnbekifcajmdkaaWRsFewer
namespace Go.Proofs.Ytnbekifcajmdkaa
open Go.RowKit

theorem nought_zeros (n r : Nat) : Nought (List.replicate n 0) r := fun _ _ => hv_zeros n _
theorem rn1 : rightB (List.replicate 255 (0 : F)) 255 = true := by
  show rightB _ ((255 : Nat) : Int) = true
  rw [rightB_iff (by rw [List.length_replicate]; omega), List.length_replicate]
  exact ⟨Nat.le_refl _, nought_zeros _ _⟩
theorem rn2 (l : List F) (h : 255 < l.length) : rightB l 1 = false := decide_eq_false fun h2 => by omega
theorem rn3 : rightB ([] : List F) 1 = false := decide_eq_false fun h2 => by have := h2.2.2.2.1; simp at this
theorem rn4 : rightB ([] : List F) 0 = true := by decide +kernel
theorem rn5 (l : List F) (h : l.length = 3) : rightB l 4 = false := decide_eq_false fun h2 => by omega
theorem rn6 (l : List F) : rightB l (-1) = false := decide_eq_false fun h2 => by omega

theorem wpList_want {P : Program} {ops : Array Oper} {rest : List Oper} {o : Oper} {a : Act} {w : World} {Q : Exit → Act → World → Prop} (hw : Region.wanted o (yielded ops a.tmps) = true)
    (h : wpList P ops Q ({ o with guard := none } :: rest) a w) : wpList P ops Q (o :: rest) a w := by
  unfold wpList at h ⊢
  rw [if_pos hw]
  rw [if_pos (by simp [Region.wanted])] at h
  exact h

set_option maxRecDepth 100000 in
set_option maxHeartbeats 8000000 in
theorem names_walk (w : World) :
    Calls Try.prog 3 #[] w fun e w' => e = .returned (.bool true) ∧ Below w.heap.size w w' := by
  go_enter Try.func3, Try.ntmps3
  go_wp2_with (first
    | (go_at_call 10; refine (works_any _).mono ?_; rintro e w' ⟨rfl, hbw⟩)
    | (at_make; refine wpList_mk _ rfl _ _ rfl w'.heap.size _ _ 255 rfl rfl rfl rfl (by omega) (Nat.le_refl _) ?_; intro w1 hown1 hg1))
  have hb1 := (Below.refl w'.heap.size w').grown hg1 (Nat.le_refl _) (by simp)
  have HB := Lib.hid (bstep hbw (Nat.le_refl _) hb1)
  have hgB : w.heap.size ≤ w'.heap.size := hbw.size
  clear hg1 hb1 hbw
  obtain ⟨L, hL⟩ : ∃ L, L = List.replicate 255 (0 : F) := ⟨_, rfl⟩
  rw [← hL] at hown1
  have HL := Lib.hid hL
  have HO := Lib.hid hown1
  have hLL : L.length = 255 := by rw [hL, List.length_replicate]
  have HLL := Lib.hid hLL
  have R1 := Lib.hid (show rightB L 255 = true by rw [hL]; exact rn1)
  clear hL hown1 hLL
  generalize w'.heap.size = g at *
  refine (check_ok _ 255 255 0 L _ HLL.out (by exact HO.out.rd) (by omega)).mono ?_
  rintro e w2 ⟨A2, c2, rfl, hm, hb⟩
  rw [checkL_length]
  replace HB := Lib.hid (bstep HB.out (Nat.le_refl _) hb)
  replace HO := Lib.hid (HO.out.below hb)
  clear hm hb
  go_wp2_with fail
  refine (check_bad _ 255 255 1 _ (by omega)).mono ?_
  rintro e wz ⟨rfl, rfl⟩
  go_wp2_with fail
  refine (check_bad _ 1 255 (-1) _ (by omega)).mono ?_
  rintro e wz ⟨rfl, rfl⟩
  go_wp2_with fail
  refine (check_ok _ 200 255 55 (L.take 200) _ (by rw [List.length_take, HLL.out]; rfl) (by exact HO.out.rd.take 200) (by omega)).mono ?_
  rintro e w3 ⟨A3, c3, rfl, hm, hb⟩
  rw [checkL_length]
  replace HB := Lib.hid (bstep HB.out (Nat.le_refl _) hb)
  replace HO := Lib.hid (HO.out.below hb)
  clear hm hb
  go_wp2_with fail
  refine (check_bad none 0 0 4611686018427387904 _ (by omega)).mono ?_
  rintro e wz ⟨rfl, rfl⟩
  go_wp2_with fail
  refine (sums_ok _ 255 255 255 L _ HLL.out (by exact HO.out.rd) (by omega) (by omega)).mono ?_
  rintro e w4 ⟨A4, c4, rfl, hm, hb⟩
  rw [show (sumsL L 255).length = 255 from tab_length _ _]
  replace HB := Lib.hid (bstep HB.out (Nat.le_refl _) hb)
  replace HO := Lib.hid (HO.out.below hb)
  clear hm hb
  go_wp2_with (at_builtin; refine wpList_pushg _ rfl _ _ rfl g g 255 L rfl (by exact HO.out.below (balloc _ _)) _ 1 (0 : F) 0 rfl rfl (by go_cell) (by omega) ?_; intro AP cP wP hP hb)
  have hb' := bstep (balloc _ _) (Nat.le_refl _) hb
  replace HB := Lib.hid (bstep HB.out (Nat.le_refl _) hb')
  replace HO := Lib.hid (HO.out.below hb')
  have HP := Lib.hid hP
  have HPL := Lib.hid (show (L ++ [(0 : F)]).length = 256 by rw [List.length_append, HLL.out]; rfl)
  clear hP hb hb'
  go_wp2_with fail
  refine (sums_bad _ 256 _ 1 _ (by omega)).mono ?_
  rintro e wz ⟨rfl, rfl⟩
  go_wp2_with fail
  refine (sums_bad none 0 0 (-1) _ (by omega)).mono ?_
  rintro e wz ⟨rfl, rfl⟩
  go_wp2_with fail
  refine (sums_ok none 0 0 2 [] _ rfl (by exact Rd.nil) (by omega) (by omega)).mono ?_
  rintro e w5 ⟨A5, c5, rfl, hm, hb⟩
  rw [show (sumsL [] 2).length = 2 from tab_length _ _]
  replace HB := Lib.hid (bstep HB.out (Nat.le_refl _) hb)
  replace HO := Lib.hid (HO.out.below hb)
  clear hm hb
  go_wp2_with fail
  refine (sums_bad none 0 0 256 _ (by omega)).mono ?_
  rintro e wz ⟨rfl, rfl⟩
  go_wp2_with fail
  refine (right_any _ 255 255 255 L _ HLL.out (by exact HO.out.rd)).mono ?_
  rintro e wq ⟨rfl, hb⟩
  rw [R1.out]
  replace HB := Lib.hid (bstep HB.out (Nat.le_refl _) hb)
  replace HO := Lib.hid (HO.out.below hb)
  clear hb
  go_wp2_with (at_builtin; refine wpList_want (by rfl) ?_; refine wpList_pushg _ rfl _ _ rfl g g 255 L rfl (by exact HO.out.below (balloc _ _)) _ 1 (0 : F) 0 rfl rfl (by go_cell) (by omega) ?_; intro AP cP wP hP hb)
  have hb' := bstep (balloc _ _) (Nat.le_refl _) hb
  replace HB := Lib.hid (bstep HB.out (Nat.le_refl _) hb')
  replace HO := Lib.hid (HO.out.below hb')
  have HP := Lib.hid hP
  have HPL := Lib.hid (show (L ++ [(0 : F)]).length = 256 by rw [List.length_append, HLL.out]; rfl)
  clear hP hb hb'
  go_wp2_with fail
  refine (right_any _ 256 _ 1 (L ++ [0]) _ HPL.out (by exact HP.out.rd)).mono ?_
  rintro e wq ⟨rfl, hb⟩
  rw [rn2 _ (by have := HPL.out; omega)]
  replace HB := Lib.hid (bstep HB.out (Nat.le_refl _) hb)
  replace HO := Lib.hid (HO.out.below hb)
  clear hb
  go_wp2_with fail
  refine (right_any none 0 0 1 [] _ rfl (by exact Rd.nil)).mono ?_
  rintro e wq ⟨rfl, hb⟩
  rw [rn3]
  replace HB := Lib.hid (bstep HB.out (Nat.le_refl _) hb)
  replace HO := Lib.hid (HO.out.below hb)
  clear hb
  go_wp2_with fail
  refine (right_any none 0 0 0 [] _ rfl (by exact Rd.nil)).mono ?_
  rintro e wq ⟨rfl, hb⟩
  rw [rn4]
  replace HB := Lib.hid (bstep HB.out (Nat.le_refl _) hb)
  replace HO := Lib.hid (HO.out.below hb)
  clear hb
  go_wp2_with fail
  refine (right_any _ 3 255 4 (L.take 3) _ (by rw [List.length_take, HLL.out]; rfl) (by exact HO.out.rd.take 3)).mono ?_
  rintro e wq ⟨rfl, hb⟩
  rw [rn5 _ (by rw [List.length_take, HLL.out]; rfl)]
  replace HB := Lib.hid (bstep HB.out (Nat.le_refl _) hb)
  replace HO := Lib.hid (HO.out.below hb)
  clear hb
  go_wp2_with fail
  refine (right_any _ 255 255 (-1) L _ HLL.out (by exact HO.out.rd)).mono ?_
  rintro e wq ⟨rfl, hb⟩
  rw [rn6]
  replace HB := Lib.hid (bstep HB.out (Nat.le_refl _) hb)
  replace HO := Lib.hid (HO.out.below hb)
  clear hb
  go_wp2_with fail
  all_goals first | (go_ret; exact ⟨rfl, HB.out⟩) | skip
end Go.Proofs.Ytnbekifcajmdkaa
