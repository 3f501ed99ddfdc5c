/- The walk of the examples (works). -/
import Derived.Test.YthejbmjleohlfaaCn
namespace Go.Proofs.Ythejbmjleohlfaa
set_option linter.unusedVariables false
set_option linter.unusedSimpArgs false
open Go.RowKit Go.Shelf

theorem check_sum (l : List F) : checkL l 1 = [hv l 1] := by
  have h := hv_word l 1 0 (by omega)
  have hl := checkL_length l 1
  match hc : checkL l 1, hl with
  | [c], _ =>
    rw [hc, hv_snoc, F.px_zero, F.mul_one, F.add_eq_zero] at h
    rw [h]
def ab : List UInt8 := [97, 98]
def oo : List UInt8 := [0, 0]
theorem RdSS.litsNew {w : World} (vs : List (Option (Nat × List UInt8))) (cs : Array Value) (hcs : cs.toList = vs.map litV) (hrow : ∀ b s, some (b, s) ∈ vs → w.cell? ⟨b, 0, none⟩ = some (sv s) ∧ b < w.heap.size) (hl : vs.length ≤ 1000) :
    RdSS (w.alloc (.cells cs 24)) (w.alloc (.cells cs 24)).heap.size (some ⟨w.heap.size, 0, none⟩) (litH vs) (vs.map litL) := by
  have ho := OwnV.lit (E := 24) w w.heap.size (vs.map litV) cs (Nat.le_refl _) (by rw [List.length_map]; omega) hcs
  refine RdSS.lits vs (fun i v hv => ho.cell (by rw [List.getElem?_map, hv]; rfl)) (fun b s h => ?_) (by simp)
  obtain ⟨h1, h2⟩ := hrow b s h
  exact ⟨((balloc w (.cells cs 24)).cell (p := ⟨b, 0, none⟩) h2).trans h1, by simp; omega⟩
theorem sym_zero : sym2 oo (2 * 0) = 0 := rfl
theorem add_two (s : F) : hv [s, s] 1 = 0 := by
  rw [show ([s, s] : List F) = [s] ++ [s] from rfl, hv_snoc, hv_single, F.mul_one, F.add_self]
theorem rec_ab : recVols 1 0 2 1 [[ab]] = [[ab]] := by
  have h0 : recCode 1 0 2 1 [[ab]] = 0 := by decide
  unfold recVols
  rw [if_pos h0]
  refine ext_getD_nil (by rw [recL_length]; rfl) fun i hi => ?_
  rw [recL_length] at hi
  obtain rfl : i = 0 := by have : (1 : Int).toNat = 1 := rfl; omega
  unfold recL
  rw [tabL_get _ _ _ hi]
  refine vol_ext ⟨rfl, fun r hr => ?_⟩ fun r a hr ha => ?_
  · obtain rfl : r = 0 := by have : (1 : Int).toNat = 1 := rfl; omega
    rfl
  · obtain rfl : r = 0 := by have : (1 : Int).toNat = 1 := rfl; omega
    have ha2 : a / 2 = 0 := by have : (2 : Int).toNat = 2 := rfl; omega
    unfold recF
    rw [ha2, show (1 : Int).toNat = 1 from rfl, check_sum]
    show byteOf (hv (wordL [[ab]] 1 0 (2 * 0)) 1) a = _
    rw [show wordL [[ab]] 1 0 (2 * 0) = [sym2 ab (2 * 0)] from rfl, hv_single]
    exact byte_sym ab 0 a ha2
theorem byte_zero (a : Nat) : byteOf 0 a = 0 := by
  unfold byteOf
  split <;> rfl
theorem getD_oo (a : Nat) : oo.getD a 0 = 0 := by
  match a with
  | 0 => rfl
  | 1 => rfl
  | a + 2 => rfl
theorem rec_abab : recVols 1 0 2 1 [[ab], [ab]] = [[oo]] := by
  have h0 : recCode 1 0 2 1 [[ab], [ab]] = 0 := by decide
  unfold recVols
  rw [if_pos h0]
  refine ext_getD_nil (by rw [recL_length]; rfl) fun i hi => ?_
  rw [recL_length] at hi
  obtain rfl : i = 0 := by have : (1 : Int).toNat = 1 := rfl; omega
  unfold recL
  rw [tabL_get _ _ _ hi]
  refine vol_ext ⟨rfl, fun r hr => ?_⟩ fun r a hr ha => ?_
  · obtain rfl : r = 0 := by have : (1 : Int).toNat = 1 := rfl; omega
    rfl
  · obtain rfl : r = 0 := by have : (1 : Int).toNat = 1 := rfl; omega
    have ha2 : a / 2 = 0 := by have : (2 : Int).toNat = 2 := rfl; omega
    unfold recF
    rw [ha2, show (1 : Int).toNat = 1 from rfl, check_sum]
    show byteOf (hv (wordL [[ab], [ab]] 2 0 (2 * 0)) 1) a = _
    rw [show wordL [[ab], [ab]] 2 0 (2 * 0) = [sym2 ab (2 * 0), sym2 ab (2 * 0)] from rfl, add_two, byte_zero]
    exact (getD_oo a).symm
theorem mend_code : mendCode 1 0 2 1 2 [[ab], [], [oo]] = 0 := by decide
theorem mend_code2 : mendCode 1 0 2 1 2 [[ab], [], []] = 0 := by decide
theorem mend_ab {L' : List (List (List UInt8))} {x : Int} (h : MendIs 1 0 2 1 2 [[ab], [], [oo]] L' x) : L' = [[ab], [ab], [oo]] ∧ x = 0 := by
  refine mend_is (D := 1) (S := 2) (M := 1) (h := 1) (N := 3) (R := 0) (k := 2) (all := [[ab], [ab], [oo]]) h mend_code (Nat.le_refl _) rfl rfl rfl (fun i hi => ?_) fun r p hr hp => ?_
  · match i, hi with
    | 0, _ => exact ⟨rfl, fun r hr => by obtain rfl : r = 0 := by omega
                                         rfl⟩
    | 1, _ => exact ⟨rfl, fun r hr => by obtain rfl : r = 0 := by omega
                                         rfl⟩
    | 2, _ => exact ⟨rfl, fun r hr => by obtain rfl : r = 0 := by omega
                                         rfl⟩
  · obtain rfl : r = 0 := by omega
    obtain rfl : p = 0 := by omega
    rw [show goneV [[ab], [], [oo]] 3 = [1] from rfl, show wordL [[ab], [], [oo]] 3 0 (2 * 0) = [sym2 ab (2 * 0), 0, 0] from rfl, show wordL [[ab], [ab], [oo]] 3 0 (2 * 0) = [sym2 ab (2 * 0), sym2 ab (2 * 0), 0] from rfl]
    generalize sym2 ab (2 * 0) = s
    refine ⟨rfl, fun j hj => ?_, ?_⟩
    · obtain rfl : j = 0 := by omega
      rw [F.px_zero, show ([s, s, 0] : List F) = [s, s] ++ [0] from rfl, hv_snoc, add_two, F.mul_one, F.add_zero]
    · have : unl [1] [s, s, 0] [s, 0, 0] 3 = 0 := by
        unfold unl
        rw [List.length_eq_zero_iff, List.filter_eq_nil_iff]
        intro i hi h
        simp only [decide_eq_true_eq] at h
        have := List.mem_range.1 hi
        match i, this with
        | 0, _ => exact h.1 rfl
        | 1, _ => exact h.2 (by simp)
        | 2, _ => exact h.1 rfl
      rw [this]
      exact Nat.le_refl _
theorem mend_two {L' : List (List (List UInt8))} {x : Int} (h : MendIs 1 0 2 1 2 [[ab], [], []] L' x) : L' = [] ∧ x = 54 := by
  cases h with
  | bad hb => exact absurd mend_code2 hb
  | made f _ hf =>
    have hd := hf 0 0 (by decide) (by decide)
    have := hd.few
    rw [show goneV [[ab], [], []] [[ab], [], []].length = [1, 2] from rfl] at this
    have e : (1 : Int).toNat = 1 := rfl
    simp at this
  | lost _ _ _ _ _ _ => exact ⟨rfl, rfl⟩
theorem rec_none : recVols 1 0 2 0 [[ab]] = [] := by
  have h0 : recCode 1 0 2 0 [[ab]] = 0 := by decide
  unfold recVols
  rw [if_pos h0]
  rfl

set_option maxRecDepth 100000 in
set_option maxHeartbeats 8000000 in
theorem works_any (w : World) : Calls Try.prog 8 #[] w fun e w' => e = .returned (.bool true) ∧ Below w.heap.size w w' := by
  go_enter Try.func8, Try.ntmps8
  have HB := Lib.hid (Below.refl w.heap.size w)
  go_wp2_with fail
  refine (shape0_any _).mono ?_
  rintro e w1 ⟨rfl, hb1⟩
  replace HB := Lib.hid (bstep HB.out (Nat.le_refl _) hb1)
  go_wp2_with fail
  refine (one_any ab _).mono ?_
  rintro e w2 ⟨rfl, hw2⟩
  have hb2 : Below w1.heap.size w1 w2 := by rw [hw2]; exact balloc _ _
  obtain ⟨b2, hb2⟩ : ∃ b, b = w1.heap.size := ⟨_, rfl⟩
  have C2 := Lib.hid (show w2.cell? ⟨b2, 0, none⟩ = some (sv ab) ∧ b2 < w2.heap.size from ⟨by rw [hw2, hb2]; go_cell, by rw [hw2, hb2]; simp⟩)
  rw [← hb2]
  clear hb2 hw2
  replace HB := Lib.hid (bstep HB.out (Nat.le_refl _) hb2)
  go_wp2_with fail
  have hrow3 : ∀ b s, some (b, s) ∈ ([some (b2, ab)] : List (Option (Nat × List UInt8))) → w2.cell? ⟨b, 0, none⟩ = some (sv s) ∧ b < w2.heap.size := by
    intro b s h
    simp only [List.mem_cons, Option.some.injEq, Prod.mk.injEq, List.not_mem_nil, or_false, reduceCtorEq, false_or] at h
    obtain ⟨rfl, rfl⟩ := h
    exact C2.out
  have RL := RdSS.litsNew (w := w2) [some (b2, ab)] #[.slice (some ⟨b2, 0, none⟩) 1 1] rfl hrow3 (by simp)
  have hb3 := balloc w2 (.cells #[.slice (some ⟨b2, 0, none⟩) 1 1] 24)
  obtain ⟨w3, hw3⟩ : ∃ v, v = w2.alloc (.cells #[.slice (some ⟨b2, 0, none⟩) 1 1] 24) := ⟨_, rfl⟩
  obtain ⟨b3, hbb3⟩ : ∃ v, v = w2.heap.size := ⟨_, rfl⟩
  rw [← hw3, ← hbb3] at RL
  rw [← hw3] at hb3
  rw [← hw3, ← hbb3]
  clear hw3 hbb3 hrow3
  replace HB := Lib.hid (bstep HB.out (Nat.le_refl _) hb3)
  replace C2 := Lib.hid (show _ ∧ _ from ⟨(hb3.cell (p := ⟨b2, 0, none⟩) C2.out.2).trans C2.out.1, Nat.lt_of_lt_of_le C2.out.2 hb3.size⟩)
  refine (rec_any (some ⟨b3, 0, none⟩) 1 1 1 0 2 1 (litH [some (b2, ab)]) [[ab]] _ rfl RL (by decide)).mono ?_
  rintro e w4 ⟨A1, n1, c1, H1, rfl, ho, hb4⟩
  rw [show recCode 1 0 2 1 [[ab]] = 0 by decide]
  rw [rec_ab] at ho
  obtain rfl : n1 = 1 := ho.len.symm
  have R1 := Lib.hid ho.rd
  clear ho RL
  replace HB := Lib.hid (bstep HB.out (Nat.le_refl _) hb4)
  replace C2 := Lib.hid (show _ ∧ _ from ⟨(hb4.cell (p := ⟨b2, 0, none⟩) C2.out.2).trans C2.out.1, Nat.lt_of_lt_of_le C2.out.2 hb4.size⟩)
  go_wp2_with fail
  refine (shape0_any _).mono ?_
  rintro e w5 ⟨rfl, hb5⟩
  replace HB := Lib.hid (bstep HB.out (Nat.le_refl _) hb5)
  replace R1 := Lib.hid ((R1.out.below hb5).more hb5.size)
  go_wp2_with fail
  refine (one_any ab _).mono ?_
  rintro e w6 ⟨rfl, hw6⟩
  have hb6 : Below w5.heap.size w5 w6 := by rw [hw6]; exact balloc _ _
  obtain ⟨b6, hb6⟩ : ∃ b, b = w5.heap.size := ⟨_, rfl⟩
  have C6 := Lib.hid (show w6.cell? ⟨b6, 0, none⟩ = some (sv ab) ∧ b6 < w6.heap.size from ⟨by rw [hw6, hb6]; go_cell, by rw [hw6, hb6]; simp⟩)
  rw [← hb6]
  clear hb6 hw6
  replace HB := Lib.hid (bstep HB.out (Nat.le_refl _) hb6)
  replace R1 := Lib.hid ((R1.out.below hb6).more hb6.size)
  go_wp2_with fail
  refine (one_any ab _).mono ?_
  rintro e w7 ⟨rfl, hw7⟩
  have hb7 : Below w6.heap.size w6 w7 := by rw [hw7]; exact balloc _ _
  obtain ⟨b7, hb7⟩ : ∃ b, b = w6.heap.size := ⟨_, rfl⟩
  have C7 := Lib.hid (show w7.cell? ⟨b7, 0, none⟩ = some (sv ab) ∧ b7 < w7.heap.size from ⟨by rw [hw7, hb7]; go_cell, by rw [hw7, hb7]; simp⟩)
  rw [← hb7]
  clear hb7 hw7
  replace HB := Lib.hid (bstep HB.out (Nat.le_refl _) hb7)
  replace R1 := Lib.hid ((R1.out.below hb7).more hb7.size)
  replace C6 := Lib.hid (show _ ∧ _ from ⟨(hb7.cell (p := ⟨b6, 0, none⟩) C6.out.2).trans C6.out.1, Nat.lt_of_lt_of_le C6.out.2 hb7.size⟩)
  go_wp2_with fail
  have hrow8 : ∀ b s, some (b, s) ∈ ([some (b6, ab), some (b7, ab)] : List (Option (Nat × List UInt8))) → w7.cell? ⟨b, 0, none⟩ = some (sv s) ∧ b < w7.heap.size := by
    intro b s h
    simp only [List.mem_cons, Option.some.injEq, Prod.mk.injEq, List.not_mem_nil, or_false, reduceCtorEq, false_or] at h
    rcases h with ⟨rfl, rfl⟩ | ⟨rfl, rfl⟩
    · exact C6.out
    · exact C7.out
  have RL := RdSS.litsNew (w := w7) [some (b6, ab), some (b7, ab)] #[.slice (some ⟨b6, 0, none⟩) 1 1, .slice (some ⟨b7, 0, none⟩) 1 1] rfl hrow8 (by simp)
  have hb8 := balloc w7 (.cells #[.slice (some ⟨b6, 0, none⟩) 1 1, .slice (some ⟨b7, 0, none⟩) 1 1] 24)
  obtain ⟨w8, hw8⟩ : ∃ v, v = w7.alloc (.cells #[.slice (some ⟨b6, 0, none⟩) 1 1, .slice (some ⟨b7, 0, none⟩) 1 1] 24) := ⟨_, rfl⟩
  obtain ⟨b8, hbb8⟩ : ∃ v, v = w7.heap.size := ⟨_, rfl⟩
  rw [← hw8, ← hbb8] at RL
  rw [← hw8] at hb8
  rw [← hw8, ← hbb8]
  clear hw8 hbb8 hrow8
  replace HB := Lib.hid (bstep HB.out (Nat.le_refl _) hb8)
  replace R1 := Lib.hid ((R1.out.below hb8).more hb8.size)
  replace C6 := Lib.hid (show _ ∧ _ from ⟨(hb8.cell (p := ⟨b6, 0, none⟩) C6.out.2).trans C6.out.1, Nat.lt_of_lt_of_le C6.out.2 hb8.size⟩)
  replace C7 := Lib.hid (show _ ∧ _ from ⟨(hb8.cell (p := ⟨b7, 0, none⟩) C7.out.2).trans C7.out.1, Nat.lt_of_lt_of_le C7.out.2 hb8.size⟩)
  refine (rec_any (some ⟨b8, 0, none⟩) 2 2 1 0 2 1 (litH [some (b6, ab), some (b7, ab)]) [[ab], [ab]] _ rfl RL (by decide)).mono ?_
  rintro e w9 ⟨A2, n2, c2, H2, rfl, ho, hb9⟩
  rw [show recCode 1 0 2 1 [[ab], [ab]] = 0 by decide]
  rw [rec_abab] at ho
  obtain rfl : n2 = 1 := ho.len.symm
  have R2 := Lib.hid ho.rd
  clear ho RL
  replace HB := Lib.hid (bstep HB.out (Nat.le_refl _) hb9)
  replace R1 := Lib.hid ((R1.out.below hb9).more hb9.size)
  replace C6 := Lib.hid (show _ ∧ _ from ⟨(hb9.cell (p := ⟨b6, 0, none⟩) C6.out.2).trans C6.out.1, Nat.lt_of_lt_of_le C6.out.2 hb9.size⟩)
  replace C7 := Lib.hid (show _ ∧ _ from ⟨(hb9.cell (p := ⟨b7, 0, none⟩) C7.out.2).trans C7.out.1, Nat.lt_of_lt_of_le C7.out.2 hb9.size⟩)
  go_wp2_with fail
  refine (shape0_any _).mono ?_
  rintro e w10 ⟨rfl, hb10⟩
  replace HB := Lib.hid (bstep HB.out (Nat.le_refl _) hb10)
  replace R1 := Lib.hid ((R1.out.below hb10).more hb10.size)
  replace R2 := Lib.hid ((R2.out.below hb10).more hb10.size)
  go_wp2_with fail
  refine (one_any ab _).mono ?_
  rintro e w11 ⟨rfl, hw11⟩
  have hb11 : Below w10.heap.size w10 w11 := by rw [hw11]; exact balloc _ _
  obtain ⟨b11, hb11⟩ : ∃ b, b = w10.heap.size := ⟨_, rfl⟩
  have C11 := Lib.hid (show w11.cell? ⟨b11, 0, none⟩ = some (sv ab) ∧ b11 < w11.heap.size from ⟨by rw [hw11, hb11]; go_cell, by rw [hw11, hb11]; simp⟩)
  rw [← hb11]
  clear hb11 hw11
  replace HB := Lib.hid (bstep HB.out (Nat.le_refl _) hb11)
  replace R1 := Lib.hid ((R1.out.below hb11).more hb11.size)
  replace R2 := Lib.hid ((R2.out.below hb11).more hb11.size)
  go_wp2_with fail
  refine (one_any oo _).mono ?_
  rintro e w12 ⟨rfl, hw12⟩
  have hb12 : Below w11.heap.size w11 w12 := by rw [hw12]; exact balloc _ _
  obtain ⟨b12, hb12⟩ : ∃ b, b = w11.heap.size := ⟨_, rfl⟩
  have C12 := Lib.hid (show w12.cell? ⟨b12, 0, none⟩ = some (sv oo) ∧ b12 < w12.heap.size from ⟨by rw [hw12, hb12]; go_cell, by rw [hw12, hb12]; simp⟩)
  rw [← hb12]
  clear hb12 hw12
  replace HB := Lib.hid (bstep HB.out (Nat.le_refl _) hb12)
  replace R1 := Lib.hid ((R1.out.below hb12).more hb12.size)
  replace R2 := Lib.hid ((R2.out.below hb12).more hb12.size)
  replace C11 := Lib.hid (show _ ∧ _ from ⟨(hb12.cell (p := ⟨b11, 0, none⟩) C11.out.2).trans C11.out.1, Nat.lt_of_lt_of_le C11.out.2 hb12.size⟩)
  go_wp2_with fail
  have hrow13 : ∀ b s, some (b, s) ∈ ([some (b11, ab), none, some (b12, oo)] : List (Option (Nat × List UInt8))) → w12.cell? ⟨b, 0, none⟩ = some (sv s) ∧ b < w12.heap.size := by
    intro b s h
    simp only [List.mem_cons, Option.some.injEq, Prod.mk.injEq, List.not_mem_nil, or_false, reduceCtorEq, false_or] at h
    rcases h with ⟨rfl, rfl⟩ | ⟨rfl, rfl⟩
    · exact C11.out
    · exact C12.out
  have RL := RdSS.litsNew (w := w12) [some (b11, ab), none, some (b12, oo)] #[.slice (some ⟨b11, 0, none⟩) 1 1, .slice none 0 0, .slice (some ⟨b12, 0, none⟩) 1 1] rfl hrow13 (by simp)
  have hb13 := balloc w12 (.cells #[.slice (some ⟨b11, 0, none⟩) 1 1, .slice none 0 0, .slice (some ⟨b12, 0, none⟩) 1 1] 24)
  obtain ⟨w13, hw13⟩ : ∃ v, v = w12.alloc (.cells #[.slice (some ⟨b11, 0, none⟩) 1 1, .slice none 0 0, .slice (some ⟨b12, 0, none⟩) 1 1] 24) := ⟨_, rfl⟩
  obtain ⟨b13, hbb13⟩ : ∃ v, v = w12.heap.size := ⟨_, rfl⟩
  rw [← hw13, ← hbb13] at RL
  rw [← hw13] at hb13
  rw [← hw13, ← hbb13]
  clear hw13 hbb13 hrow13
  replace HB := Lib.hid (bstep HB.out (Nat.le_refl _) hb13)
  replace R1 := Lib.hid ((R1.out.below hb13).more hb13.size)
  replace R2 := Lib.hid ((R2.out.below hb13).more hb13.size)
  replace C11 := Lib.hid (show _ ∧ _ from ⟨(hb13.cell (p := ⟨b11, 0, none⟩) C11.out.2).trans C11.out.1, Nat.lt_of_lt_of_le C11.out.2 hb13.size⟩)
  replace C12 := Lib.hid (show _ ∧ _ from ⟨(hb13.cell (p := ⟨b12, 0, none⟩) C12.out.2).trans C12.out.1, Nat.lt_of_lt_of_le C12.out.2 hb13.size⟩)
  refine (crossMend_any (some ⟨b13, 0, none⟩) 3 3 1 0 2 1 2 (litH [some (b11, ab), none, some (b12, oo)]) [[ab], [], [oo]] _ rfl RL (by decide)).mono ?_
  rintro e w14 ⟨A3, n3, c3, H3, L3, x3, rfl, ho, hm, hb14⟩
  obtain ⟨rfl, rfl⟩ := mend_ab hm
  obtain rfl : n3 = 3 := ho.len.symm
  have R3 := Lib.hid ho.rd
  clear ho hm RL
  replace HB := Lib.hid (bstep HB.out (Nat.le_refl _) hb14)
  replace R1 := Lib.hid ((R1.out.below hb14).more hb14.size)
  replace R2 := Lib.hid ((R2.out.below hb14).more hb14.size)
  replace C11 := Lib.hid (show _ ∧ _ from ⟨(hb14.cell (p := ⟨b11, 0, none⟩) C11.out.2).trans C11.out.1, Nat.lt_of_lt_of_le C11.out.2 hb14.size⟩)
  replace C12 := Lib.hid (show _ ∧ _ from ⟨(hb14.cell (p := ⟨b12, 0, none⟩) C12.out.2).trans C12.out.1, Nat.lt_of_lt_of_le C12.out.2 hb14.size⟩)
  go_wp2_with fail
  refine (shape0_any _).mono ?_
  rintro e w15 ⟨rfl, hb15⟩
  replace HB := Lib.hid (bstep HB.out (Nat.le_refl _) hb15)
  replace R1 := Lib.hid ((R1.out.below hb15).more hb15.size)
  replace R2 := Lib.hid ((R2.out.below hb15).more hb15.size)
  replace R3 := Lib.hid ((R3.out.below hb15).more hb15.size)
  go_wp2_with fail
  refine (one_any ab _).mono ?_
  rintro e w16 ⟨rfl, hw16⟩
  have hb16 : Below w15.heap.size w15 w16 := by rw [hw16]; exact balloc _ _
  obtain ⟨b16, hb16⟩ : ∃ b, b = w15.heap.size := ⟨_, rfl⟩
  have C16 := Lib.hid (show w16.cell? ⟨b16, 0, none⟩ = some (sv ab) ∧ b16 < w16.heap.size from ⟨by rw [hw16, hb16]; go_cell, by rw [hw16, hb16]; simp⟩)
  rw [← hb16]
  clear hb16 hw16
  replace HB := Lib.hid (bstep HB.out (Nat.le_refl _) hb16)
  replace R1 := Lib.hid ((R1.out.below hb16).more hb16.size)
  replace R2 := Lib.hid ((R2.out.below hb16).more hb16.size)
  replace R3 := Lib.hid ((R3.out.below hb16).more hb16.size)
  go_wp2_with fail
  have hrow17 : ∀ b s, some (b, s) ∈ ([some (b16, ab), none, none] : List (Option (Nat × List UInt8))) → w16.cell? ⟨b, 0, none⟩ = some (sv s) ∧ b < w16.heap.size := by
    intro b s h
    simp only [List.mem_cons, Option.some.injEq, Prod.mk.injEq, List.not_mem_nil, or_false, reduceCtorEq, false_or] at h
    obtain ⟨rfl, rfl⟩ := h
    exact C16.out
  have RL := RdSS.litsNew (w := w16) [some (b16, ab), none, none] #[.slice (some ⟨b16, 0, none⟩) 1 1, .slice none 0 0, .slice none 0 0] rfl hrow17 (by simp)
  have hb17 := balloc w16 (.cells #[.slice (some ⟨b16, 0, none⟩) 1 1, .slice none 0 0, .slice none 0 0] 24)
  obtain ⟨w17, hw17⟩ : ∃ v, v = w16.alloc (.cells #[.slice (some ⟨b16, 0, none⟩) 1 1, .slice none 0 0, .slice none 0 0] 24) := ⟨_, rfl⟩
  obtain ⟨b17, hbb17⟩ : ∃ v, v = w16.heap.size := ⟨_, rfl⟩
  rw [← hw17, ← hbb17] at RL
  rw [← hw17] at hb17
  rw [← hw17, ← hbb17]
  clear hw17 hbb17 hrow17
  replace HB := Lib.hid (bstep HB.out (Nat.le_refl _) hb17)
  replace R1 := Lib.hid ((R1.out.below hb17).more hb17.size)
  replace R2 := Lib.hid ((R2.out.below hb17).more hb17.size)
  replace R3 := Lib.hid ((R3.out.below hb17).more hb17.size)
  replace C16 := Lib.hid (show _ ∧ _ from ⟨(hb17.cell (p := ⟨b16, 0, none⟩) C16.out.2).trans C16.out.1, Nat.lt_of_lt_of_le C16.out.2 hb17.size⟩)
  refine (crossMend_any (some ⟨b17, 0, none⟩) 3 3 1 0 2 1 2 (litH [some (b16, ab), none, none]) [[ab], [], []] _ rfl RL (by decide)).mono ?_
  rintro e w18 ⟨A4, n4, c4, H4, L4, x4, rfl, ho, hm, hb18⟩
  obtain ⟨rfl, rfl⟩ := mend_two hm
  clear ho hm RL
  replace HB := Lib.hid (bstep HB.out (Nat.le_refl _) hb18)
  replace R1 := Lib.hid ((R1.out.below hb18).more hb18.size)
  replace R2 := Lib.hid ((R2.out.below hb18).more hb18.size)
  replace R3 := Lib.hid ((R3.out.below hb18).more hb18.size)
  replace C16 := Lib.hid (show _ ∧ _ from ⟨(hb18.cell (p := ⟨b16, 0, none⟩) C16.out.2).trans C16.out.1, Nat.lt_of_lt_of_le C16.out.2 hb18.size⟩)
  go_wp2_with fail
  refine (one_any ab _).mono ?_
  rintro e w19 ⟨rfl, hw19⟩
  have hb19 : Below w18.heap.size w18 w19 := by rw [hw19]; exact balloc _ _
  obtain ⟨b19, hb19⟩ : ∃ b, b = w18.heap.size := ⟨_, rfl⟩
  have C19 := Lib.hid (show w19.cell? ⟨b19, 0, none⟩ = some (sv ab) ∧ b19 < w19.heap.size from ⟨by rw [hw19, hb19]; go_cell, by rw [hw19, hb19]; simp⟩)
  rw [← hb19]
  clear hb19 hw19
  replace HB := Lib.hid (bstep HB.out (Nat.le_refl _) hb19)
  replace R1 := Lib.hid ((R1.out.below hb19).more hb19.size)
  replace R2 := Lib.hid ((R2.out.below hb19).more hb19.size)
  replace R3 := Lib.hid ((R3.out.below hb19).more hb19.size)
  go_wp2_with fail
  have hrow20 : ∀ b s, some (b, s) ∈ ([some (b19, ab)] : List (Option (Nat × List UInt8))) → w19.cell? ⟨b, 0, none⟩ = some (sv s) ∧ b < w19.heap.size := by
    intro b s h
    simp only [List.mem_cons, Option.some.injEq, Prod.mk.injEq, List.not_mem_nil, or_false, reduceCtorEq, false_or] at h
    obtain ⟨rfl, rfl⟩ := h
    exact C19.out
  have RL := RdSS.litsNew (w := w19) [some (b19, ab)] #[.slice (some ⟨b19, 0, none⟩) 1 1] rfl hrow20 (by simp)
  have hb20 := balloc w19 (.cells #[.slice (some ⟨b19, 0, none⟩) 1 1] 24)
  obtain ⟨w20, hw20⟩ : ∃ v, v = w19.alloc (.cells #[.slice (some ⟨b19, 0, none⟩) 1 1] 24) := ⟨_, rfl⟩
  obtain ⟨b20, hbb20⟩ : ∃ v, v = w19.heap.size := ⟨_, rfl⟩
  rw [← hw20, ← hbb20] at RL
  rw [← hw20] at hb20
  rw [← hw20, ← hbb20]
  clear hw20 hbb20 hrow20
  replace HB := Lib.hid (bstep HB.out (Nat.le_refl _) hb20)
  replace R1 := Lib.hid ((R1.out.below hb20).more hb20.size)
  replace R2 := Lib.hid ((R2.out.below hb20).more hb20.size)
  replace R3 := Lib.hid ((R3.out.below hb20).more hb20.size)
  replace C19 := Lib.hid (show _ ∧ _ from ⟨(hb20.cell (p := ⟨b19, 0, none⟩) C19.out.2).trans C19.out.1, Nat.lt_of_lt_of_le C19.out.2 hb20.size⟩)
  refine (rec_any (some ⟨b20, 0, none⟩) 1 1 1 0 2 0 (litH [some (b19, ab)]) [[ab]] _ rfl RL (by decide)).mono ?_
  rintro e w21 ⟨A5, n5, c5, H5, rfl, ho, hb21⟩
  rw [show recCode 1 0 2 0 [[ab]] = 0 by decide]
  rw [rec_none] at ho
  obtain rfl : n5 = 0 := ho.len.symm
  clear ho RL
  replace HB := Lib.hid (bstep HB.out (Nat.le_refl _) hb21)
  replace R1 := Lib.hid ((R1.out.below hb21).more hb21.size)
  replace R2 := Lib.hid ((R2.out.below hb21).more hb21.size)
  replace R3 := Lib.hid ((R3.out.below hb21).more hb21.size)
  replace C19 := Lib.hid (show _ ∧ _ from ⟨(hb21.cell (p := ⟨b19, 0, none⟩) C19.out.2).trans C19.out.1, Nat.lt_of_lt_of_le C19.out.2 hb21.size⟩)
  go_wp2_with fail
  refine (one_any ab _).mono ?_
  rintro e w22 ⟨rfl, hw22⟩
  have hb22 : Below w21.heap.size w21 w22 := by rw [hw22]; exact balloc _ _
  obtain ⟨b22, hb22⟩ : ∃ b, b = w21.heap.size := ⟨_, rfl⟩
  have C22 := Lib.hid (show w22.cell? ⟨b22, 0, none⟩ = some (sv ab) ∧ b22 < w22.heap.size from ⟨by rw [hw22, hb22]; go_cell, by rw [hw22, hb22]; simp⟩)
  rw [← hb22]
  clear hb22 hw22
  replace HB := Lib.hid (bstep HB.out (Nat.le_refl _) hb22)
  replace R1 := Lib.hid ((R1.out.below hb22).more hb22.size)
  replace R2 := Lib.hid ((R2.out.below hb22).more hb22.size)
  replace R3 := Lib.hid ((R3.out.below hb22).more hb22.size)
  go_wp2_with fail
  have hrow23 : ∀ b s, some (b, s) ∈ ([some (b22, ab)] : List (Option (Nat × List UInt8))) → w22.cell? ⟨b, 0, none⟩ = some (sv s) ∧ b < w22.heap.size := by
    intro b s h
    simp only [List.mem_cons, Option.some.injEq, Prod.mk.injEq, List.not_mem_nil, or_false, reduceCtorEq, false_or] at h
    obtain ⟨rfl, rfl⟩ := h
    exact C22.out
  have RL := RdSS.litsNew (w := w22) [some (b22, ab)] #[.slice (some ⟨b22, 0, none⟩) 1 1] rfl hrow23 (by simp)
  have hb23 := balloc w22 (.cells #[.slice (some ⟨b22, 0, none⟩) 1 1] 24)
  obtain ⟨w23, hw23⟩ : ∃ v, v = w22.alloc (.cells #[.slice (some ⟨b22, 0, none⟩) 1 1] 24) := ⟨_, rfl⟩
  obtain ⟨b23, hbb23⟩ : ∃ v, v = w22.heap.size := ⟨_, rfl⟩
  rw [← hw23, ← hbb23] at RL
  rw [← hw23] at hb23
  rw [← hw23, ← hbb23]
  clear hw23 hbb23 hrow23
  replace HB := Lib.hid (bstep HB.out (Nat.le_refl _) hb23)
  replace R1 := Lib.hid ((R1.out.below hb23).more hb23.size)
  replace R2 := Lib.hid ((R2.out.below hb23).more hb23.size)
  replace R3 := Lib.hid ((R3.out.below hb23).more hb23.size)
  replace C22 := Lib.hid (show _ ∧ _ from ⟨(hb23.cell (p := ⟨b22, 0, none⟩) C22.out.2).trans C22.out.1, Nat.lt_of_lt_of_le C22.out.2 hb23.size⟩)
  refine (same_eq A1 (some ⟨b23, 0, none⟩) 1 c1 1 1 _ _ H1 (litH [some (b22, ab)]) [[ab]] [[ab]] _ rfl rfl R1.out RL (Nat.le_refl _) (Nat.le_refl _) (by decide) (by decide)).mono ?_
  rintro e w24 ⟨rfl, hb24⟩
  rw [show decide (([[ab]] : List (List (List UInt8))) = [[ab]]) = true from decide_eq_true rfl]
  clear RL
  replace HB := Lib.hid (bstep HB.out (Nat.le_refl _) hb24)
  replace R1 := Lib.hid ((R1.out.below hb24).more hb24.size)
  replace R2 := Lib.hid ((R2.out.below hb24).more hb24.size)
  replace R3 := Lib.hid ((R3.out.below hb24).more hb24.size)
  replace C22 := Lib.hid (show _ ∧ _ from ⟨(hb24.cell (p := ⟨b22, 0, none⟩) C22.out.2).trans C22.out.1, Nat.lt_of_lt_of_le C22.out.2 hb24.size⟩)
  go_wp2_with fail
  refine (one_any oo _).mono ?_
  rintro e w25 ⟨rfl, hw25⟩
  have hb25 : Below w24.heap.size w24 w25 := by rw [hw25]; exact balloc _ _
  obtain ⟨b25, hb25⟩ : ∃ b, b = w24.heap.size := ⟨_, rfl⟩
  have C25 := Lib.hid (show w25.cell? ⟨b25, 0, none⟩ = some (sv oo) ∧ b25 < w25.heap.size from ⟨by rw [hw25, hb25]; go_cell, by rw [hw25, hb25]; simp⟩)
  rw [← hb25]
  clear hb25 hw25
  replace HB := Lib.hid (bstep HB.out (Nat.le_refl _) hb25)
  replace R1 := Lib.hid ((R1.out.below hb25).more hb25.size)
  replace R2 := Lib.hid ((R2.out.below hb25).more hb25.size)
  replace R3 := Lib.hid ((R3.out.below hb25).more hb25.size)
  go_wp2_with fail
  have hrow26 : ∀ b s, some (b, s) ∈ ([some (b25, oo)] : List (Option (Nat × List UInt8))) → w25.cell? ⟨b, 0, none⟩ = some (sv s) ∧ b < w25.heap.size := by
    intro b s h
    simp only [List.mem_cons, Option.some.injEq, Prod.mk.injEq, List.not_mem_nil, or_false, reduceCtorEq, false_or] at h
    obtain ⟨rfl, rfl⟩ := h
    exact C25.out
  have RL := RdSS.litsNew (w := w25) [some (b25, oo)] #[.slice (some ⟨b25, 0, none⟩) 1 1] rfl hrow26 (by simp)
  have hb26 := balloc w25 (.cells #[.slice (some ⟨b25, 0, none⟩) 1 1] 24)
  obtain ⟨w26, hw26⟩ : ∃ v, v = w25.alloc (.cells #[.slice (some ⟨b25, 0, none⟩) 1 1] 24) := ⟨_, rfl⟩
  obtain ⟨b26, hbb26⟩ : ∃ v, v = w25.heap.size := ⟨_, rfl⟩
  rw [← hw26, ← hbb26] at RL
  rw [← hw26] at hb26
  rw [← hw26, ← hbb26]
  clear hw26 hbb26 hrow26
  replace HB := Lib.hid (bstep HB.out (Nat.le_refl _) hb26)
  replace R1 := Lib.hid ((R1.out.below hb26).more hb26.size)
  replace R2 := Lib.hid ((R2.out.below hb26).more hb26.size)
  replace R3 := Lib.hid ((R3.out.below hb26).more hb26.size)
  replace C25 := Lib.hid (show _ ∧ _ from ⟨(hb26.cell (p := ⟨b25, 0, none⟩) C25.out.2).trans C25.out.1, Nat.lt_of_lt_of_le C25.out.2 hb26.size⟩)
  refine (same_eq A2 (some ⟨b26, 0, none⟩) 1 c2 1 1 _ _ H2 (litH [some (b25, oo)]) [[oo]] [[oo]] _ rfl rfl R2.out RL (Nat.le_refl _) (Nat.le_refl _) (by decide) (by decide)).mono ?_
  rintro e w27 ⟨rfl, hb27⟩
  rw [show decide (([[oo]] : List (List (List UInt8))) = [[oo]]) = true from decide_eq_true rfl]
  clear RL
  replace HB := Lib.hid (bstep HB.out (Nat.le_refl _) hb27)
  replace R1 := Lib.hid ((R1.out.below hb27).more hb27.size)
  replace R2 := Lib.hid ((R2.out.below hb27).more hb27.size)
  replace R3 := Lib.hid ((R3.out.below hb27).more hb27.size)
  replace C25 := Lib.hid (show _ ∧ _ from ⟨(hb27.cell (p := ⟨b25, 0, none⟩) C25.out.2).trans C25.out.1, Nat.lt_of_lt_of_le C25.out.2 hb27.size⟩)
  go_wp2_with fail
  refine (one_any ab _).mono ?_
  rintro e w28 ⟨rfl, hw28⟩
  have hb28 : Below w27.heap.size w27 w28 := by rw [hw28]; exact balloc _ _
  obtain ⟨b28, hb28⟩ : ∃ b, b = w27.heap.size := ⟨_, rfl⟩
  have C28 := Lib.hid (show w28.cell? ⟨b28, 0, none⟩ = some (sv ab) ∧ b28 < w28.heap.size from ⟨by rw [hw28, hb28]; go_cell, by rw [hw28, hb28]; simp⟩)
  rw [← hb28]
  clear hb28 hw28
  replace HB := Lib.hid (bstep HB.out (Nat.le_refl _) hb28)
  replace R1 := Lib.hid ((R1.out.below hb28).more hb28.size)
  replace R2 := Lib.hid ((R2.out.below hb28).more hb28.size)
  replace R3 := Lib.hid ((R3.out.below hb28).more hb28.size)
  go_wp2_with fail
  refine (one_any ab _).mono ?_
  rintro e w29 ⟨rfl, hw29⟩
  have hb29 : Below w28.heap.size w28 w29 := by rw [hw29]; exact balloc _ _
  obtain ⟨b29, hb29⟩ : ∃ b, b = w28.heap.size := ⟨_, rfl⟩
  have C29 := Lib.hid (show w29.cell? ⟨b29, 0, none⟩ = some (sv ab) ∧ b29 < w29.heap.size from ⟨by rw [hw29, hb29]; go_cell, by rw [hw29, hb29]; simp⟩)
  rw [← hb29]
  clear hb29 hw29
  replace HB := Lib.hid (bstep HB.out (Nat.le_refl _) hb29)
  replace R1 := Lib.hid ((R1.out.below hb29).more hb29.size)
  replace R2 := Lib.hid ((R2.out.below hb29).more hb29.size)
  replace R3 := Lib.hid ((R3.out.below hb29).more hb29.size)
  replace C28 := Lib.hid (show _ ∧ _ from ⟨(hb29.cell (p := ⟨b28, 0, none⟩) C28.out.2).trans C28.out.1, Nat.lt_of_lt_of_le C28.out.2 hb29.size⟩)
  go_wp2_with fail
  refine (one_any oo _).mono ?_
  rintro e w30 ⟨rfl, hw30⟩
  have hb30 : Below w29.heap.size w29 w30 := by rw [hw30]; exact balloc _ _
  obtain ⟨b30, hb30⟩ : ∃ b, b = w29.heap.size := ⟨_, rfl⟩
  have C30 := Lib.hid (show w30.cell? ⟨b30, 0, none⟩ = some (sv oo) ∧ b30 < w30.heap.size from ⟨by rw [hw30, hb30]; go_cell, by rw [hw30, hb30]; simp⟩)
  rw [← hb30]
  clear hb30 hw30
  replace HB := Lib.hid (bstep HB.out (Nat.le_refl _) hb30)
  replace R1 := Lib.hid ((R1.out.below hb30).more hb30.size)
  replace R2 := Lib.hid ((R2.out.below hb30).more hb30.size)
  replace R3 := Lib.hid ((R3.out.below hb30).more hb30.size)
  replace C28 := Lib.hid (show _ ∧ _ from ⟨(hb30.cell (p := ⟨b28, 0, none⟩) C28.out.2).trans C28.out.1, Nat.lt_of_lt_of_le C28.out.2 hb30.size⟩)
  replace C29 := Lib.hid (show _ ∧ _ from ⟨(hb30.cell (p := ⟨b29, 0, none⟩) C29.out.2).trans C29.out.1, Nat.lt_of_lt_of_le C29.out.2 hb30.size⟩)
  go_wp2_with fail
  have hrow31 : ∀ b s, some (b, s) ∈ ([some (b28, ab), some (b29, ab), some (b30, oo)] : List (Option (Nat × List UInt8))) → w30.cell? ⟨b, 0, none⟩ = some (sv s) ∧ b < w30.heap.size := by
    intro b s h
    simp only [List.mem_cons, Option.some.injEq, Prod.mk.injEq, List.not_mem_nil, or_false, reduceCtorEq, false_or] at h
    rcases h with ⟨rfl, rfl⟩ | ⟨rfl, rfl⟩ | ⟨rfl, rfl⟩
    · exact C28.out
    · exact C29.out
    · exact C30.out
  have RL := RdSS.litsNew (w := w30) [some (b28, ab), some (b29, ab), some (b30, oo)] #[.slice (some ⟨b28, 0, none⟩) 1 1, .slice (some ⟨b29, 0, none⟩) 1 1, .slice (some ⟨b30, 0, none⟩) 1 1] rfl hrow31 (by simp)
  have hb31 := balloc w30 (.cells #[.slice (some ⟨b28, 0, none⟩) 1 1, .slice (some ⟨b29, 0, none⟩) 1 1, .slice (some ⟨b30, 0, none⟩) 1 1] 24)
  obtain ⟨w31, hw31⟩ : ∃ v, v = w30.alloc (.cells #[.slice (some ⟨b28, 0, none⟩) 1 1, .slice (some ⟨b29, 0, none⟩) 1 1, .slice (some ⟨b30, 0, none⟩) 1 1] 24) := ⟨_, rfl⟩
  obtain ⟨b31, hbb31⟩ : ∃ v, v = w30.heap.size := ⟨_, rfl⟩
  rw [← hw31, ← hbb31] at RL
  rw [← hw31] at hb31
  rw [← hw31, ← hbb31]
  clear hw31 hbb31 hrow31
  replace HB := Lib.hid (bstep HB.out (Nat.le_refl _) hb31)
  replace R1 := Lib.hid ((R1.out.below hb31).more hb31.size)
  replace R2 := Lib.hid ((R2.out.below hb31).more hb31.size)
  replace R3 := Lib.hid ((R3.out.below hb31).more hb31.size)
  replace C28 := Lib.hid (show _ ∧ _ from ⟨(hb31.cell (p := ⟨b28, 0, none⟩) C28.out.2).trans C28.out.1, Nat.lt_of_lt_of_le C28.out.2 hb31.size⟩)
  replace C29 := Lib.hid (show _ ∧ _ from ⟨(hb31.cell (p := ⟨b29, 0, none⟩) C29.out.2).trans C29.out.1, Nat.lt_of_lt_of_le C29.out.2 hb31.size⟩)
  replace C30 := Lib.hid (show _ ∧ _ from ⟨(hb31.cell (p := ⟨b30, 0, none⟩) C30.out.2).trans C30.out.1, Nat.lt_of_lt_of_le C30.out.2 hb31.size⟩)
  refine (same_eq A3 (some ⟨b31, 0, none⟩) 3 c3 3 3 _ _ H3 (litH [some (b28, ab), some (b29, ab), some (b30, oo)]) [[ab], [ab], [oo]] [[ab], [ab], [oo]] _ rfl rfl R3.out RL (Nat.le_refl _) (Nat.le_refl _) (by decide) (by decide)).mono ?_
  rintro e w32 ⟨rfl, hb32⟩
  rw [show decide (([[ab], [ab], [oo]] : List (List (List UInt8))) = [[ab], [ab], [oo]]) = true from decide_eq_true rfl]
  clear RL
  replace HB := Lib.hid (bstep HB.out (Nat.le_refl _) hb32)
  replace R1 := Lib.hid ((R1.out.below hb32).more hb32.size)
  replace R2 := Lib.hid ((R2.out.below hb32).more hb32.size)
  replace R3 := Lib.hid ((R3.out.below hb32).more hb32.size)
  replace C28 := Lib.hid (show _ ∧ _ from ⟨(hb32.cell (p := ⟨b28, 0, none⟩) C28.out.2).trans C28.out.1, Nat.lt_of_lt_of_le C28.out.2 hb32.size⟩)
  replace C29 := Lib.hid (show _ ∧ _ from ⟨(hb32.cell (p := ⟨b29, 0, none⟩) C29.out.2).trans C29.out.1, Nat.lt_of_lt_of_le C29.out.2 hb32.size⟩)
  replace C30 := Lib.hid (show _ ∧ _ from ⟨(hb32.cell (p := ⟨b30, 0, none⟩) C30.out.2).trans C30.out.1, Nat.lt_of_lt_of_le C30.out.2 hb32.size⟩)
  go_wp2_with fail
  go_ret
  exact ⟨rfl, HB.out⟩
end Go.Proofs.Ythejbmjleohlfaa
