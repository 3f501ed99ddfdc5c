/- Sums of volumes, byte by byte: their recovery volumes are the sums of the recovery volumes. Plain. -/
import Derived.Test.YthejbmjleohlfaaCn
import Derived.Test.YthejbmjleohlfaaAp
import Derived.Test.YthejbmjleohlfaaCq
namespace Go.Proofs.Ythejbmjleohlfaa
set_option linter.unusedVariables false
set_option linter.unusedSimpArgs false
open Go.RowKit

def sumR (x y : List UInt8) : List UInt8 := (List.range x.length).map fun a => x.getD a 0 ^^^ y.getD a 0
def sumV (v u : List (List UInt8)) : List (List UInt8) := (List.range v.length).map fun r => sumR (v.getD r []) (u.getD r [])
def sumL (L K : List (List (List UInt8))) : List (List (List UInt8)) := (List.range L.length).map fun i => sumV (L.getD i []) (K.getD i [])
theorem range_getD {α : Type} (F : Nat → α) (d : α) {n i : Nat} (h : i < n) : ((List.range n).map F).getD i d = F i := by rw [List.getD, range_get F h]; rfl
theorem sumR_length (x y : List UInt8) : (sumR x y).length = x.length := by simp [sumR]
theorem sumV_length (v u : List (List UInt8)) : (sumV v u).length = v.length := by simp [sumV]
theorem sumL_length (L K : List (List (List UInt8))) : (sumL L K).length = L.length := by simp [sumL]
theorem hib_add (x y : F) : hib (x + y) = hib x ^^^ hib y := by
  have hx := x.nat_lt
  have hy := y.nat_lt
  have e : ∀ z : F, (hib z).toNat = z.nat / 256 := fun z => by
    have h := z.nat_lt
    rw [show (hib z).toNat = z.nat / 256 % 256 from UInt8.toNat_ofNat']
    omega
  refine UInt8.toNat_inj.1 ?_
  rw [UInt8.toNat_xor, e, e, e, F.nat_add]
  exact Nat.xor_div_two_pow (n := 8)
theorem lob_add (x y : F) : lob (x + y) = lob x ^^^ lob y := by
  have e : ∀ z : F, (lob z).toNat = z.nat % 256 := fun z => by
    rw [show (lob z).toNat = z.nat % 256 % 256 from UInt8.toNat_ofNat']
    omega
  refine UInt8.toNat_inj.1 ?_
  rw [UInt8.toNat_xor, e, e, e, F.nat_add]
  exact Nat.xor_mod_two_pow (n := 8)
theorem byte_add (x y : F) (a : Nat) : byteOf (x + y) a = byteOf x a ^^^ byteOf y a := by
  unfold byteOf
  split
  · exact hib_add x y
  · exact lob_add x y
theorem sym_add (x y : List UInt8) (p : Nat) (h : 2 * p + 1 < x.length) : sym2 (sumR x y) (2 * p) = sym2 x (2 * p) + sym2 y (2 * p) := by
  have g : ∀ a, a < x.length → (sumR x y).getD a 0 = x.getD a 0 ^^^ y.getD a 0 := fun a ha => range_getD _ _ ha
  have b : ∀ a, a / 2 = p → byteOf (sym2 x (2 * p) + sym2 y (2 * p)) a = x.getD a 0 ^^^ y.getD a 0 := fun a ha => by
    rw [byte_add, byte_sym x p a ha, byte_sym y p a ha]
  have b0 := b (2 * p) (by omega)
  have b1 := b (2 * p + 1) (by omega)
  have e0 : ∀ z, byteOf z (2 * p) = hib z := fun z => by unfold byteOf; rw [if_pos (by omega)]
  have e1 : ∀ z, byteOf z (2 * p + 1) = lob z := fun z => by unfold byteOf; rw [if_neg (by omega)]
  rw [e0] at b0
  rw [e1] at b1
  rw [← sym_bytes (sym2 x (2 * p) + sym2 y (2 * p)), b0, b1, ← g _ (by omega), ← g _ h]
  rfl
/-- The checks of a sum. -/
theorem check_sum2 {v w : List F} {n M : Nat} (hv' : v.length = n) (hw : w.length = n) (hn : n + M ≤ 255) : checkL (tab n (fun i => v.getD i 0 + w.getD i 0)) M = tab M (fun i => (checkL v M).getD i 0 + (checkL w M).getD i 0) := by
  have hd : tab n (fun i => v.getD i 0 + w.getD i 0) ++ tab M (fun i => (checkL v M).getD i 0 + (checkL w M).getD i 0) = tab (n + M) (fun i => (v ++ checkL v M).getD i 0 + (w ++ checkL w M).getD i 0) := by
    rw [tab_append]
    congr 1
    · exact tab_congr fun i hi => by
        rw [List.getD, List.getD, List.getD, List.getD, List.getElem?_append_left (by omega), List.getElem?_append_left (by omega)]
    · exact tab_congr fun i hi => by
        rw [List.getD, List.getD, List.getD, List.getD, List.getElem?_append_right (by omega), List.getElem?_append_right (by omega), hv', hw, Nat.add_sub_cancel_left]
  have nd : Nought (tab n (fun i => v.getD i 0 + w.getD i 0) ++ tab M (fun i => (checkL v M).getD i 0 + (checkL w M).getD i 0)) M := fun j hj => by
    rw [hd, hv_sum2 _ _ _ (by rw [List.length_append, checkL_length, hv']) (by rw [List.length_append, checkL_length, hw]), hv_word v M j hj, hv_word w M j hj, F.add_zero]
  have nc : Nought (tab n (fun i => v.getD i 0 + w.getD i 0) ++ checkL (tab n (fun i => v.getD i 0 + w.getD i 0)) M) M := fun j hj => hv_word _ M j hj
  generalize tab n (fun i => v.getD i 0 + w.getD i 0) = s at nd nc ⊢ hd
  have hs : s.length = n := by
    have := congrArg List.length hd
    rw [List.length_append, tab_length, tab_length] at this
    omega
  have fewer : ∀ d : List F, unl ((List.range M).map (n + ·)) (s ++ d) (s ++ checkL s M) (n + M) = 0 := fun d => by
    unfold unl
    rw [List.length_eq_zero_iff, List.filter_eq_nil_iff]
    intro i hi h
    have hi := List.mem_range.1 hi
    simp only [decide_eq_true_eq] at h
    rcases Nat.lt_or_ge i n with h1 | h1
    · exact h.1 (by rw [List.getD, List.getD, List.getElem?_append_left (by omega), List.getElem?_append_left (by omega)])
    · exact h.2 (List.mem_map.2 ⟨i - n, List.mem_range.2 (by omega), by omega⟩)
  have dec : ∀ d : List F, d.length = M → Nought (s ++ d) M → Dec (n + M) M ((List.range M).map (n + ·)) (s ++ checkL s M) (s ++ d) := fun d hl hno => ⟨by rw [List.length_append, hs, hl], hno, by rw [fewer, List.length_map, List.length_range]; omega⟩
  exact List.append_cancel_left (dec_apart hn (dec _ (checkL_length _ _) nc) (dec _ (tab_length _ _) nd))
theorem sumL_get {L K : List (List (List UInt8))} {i : Nat} (h : i < L.length) : (sumL L K).getD i [] = sumV (L.getD i []) (K.getD i []) := range_getD _ _ h
theorem sumV_get {v u : List (List UInt8)} {r : Nat} (h : r < v.length) : (sumV v u).getD r [] = sumR (v.getD r []) (u.getD r []) := range_getD _ _ h
theorem reg_sum {D S : Nat} {v u : List (List UInt8)} (h : Reg D S v) : Reg D S (sumV v u) := ⟨by rw [sumV_length]; exact h.1, fun r hr => by rw [sumV_get (by rw [h.1]; exact hr), sumR_length]; exact h.2 r hr⟩
theorem symL_sum {D S hh i r p n : Nat} {L K : List (List (List UInt8))} (hL : L.length = n) (hr1 : ∀ i, i < n → Reg D S (L.getD i [])) (hr2 : ∀ i, i < n → Reg D S (K.getD i [])) (hi : i < n) (hr : r < D) (hp : p < hh) (hS : S = 2 * hh) : symL (sumL L K) i r (2 * p) = symL L i r (2 * p) + symL K i r (2 * p) := by
  have h1 := hr1 i hi
  have h2 := hr2 i hi
  unfold symL
  rw [sumL_get (by rw [hL]; exact hi), sumV_length, h1.1, h2.1, if_pos (by omega), if_pos (by omega), if_pos (by omega), sumV_get (by rw [h1.1]; exact hr)]
  exact sym_add _ _ _ (by rw [h1.2 r hr]; omega)
theorem rec_sum {D S M hh n : Nat} {L K : List (List (List UInt8))} (hL : L.length = n) (hK : K.length = n) (hr1 : ∀ i, i < n → Reg D S (L.getD i [])) (hr2 : ∀ i, i < n → Reg D S (K.getD i [])) (hS : S = 2 * hh) (hn : n + M ≤ 255) : recL D S M (sumL L K) = sumL (recL D S M L) (recL D S M K) := by
  have key : ∀ i r a, i < M → r < D → a < S → recF (sumL L K) n M i r a = recF L n M i r a ^^^ recF K n M i r a := fun i r a hi hr ha => by
    unfold recF
    rw [← byte_add]
    congr 1
    have hw : wordL (sumL L K) n r (2 * (a / 2)) = tab n (fun i => (wordL L n r (2 * (a / 2))).getD i 0 + (wordL K n r (2 * (a / 2))).getD i 0) := by
      unfold wordL
      exact tab_congr fun i hi => by rw [symL_sum hL hr1 hr2 hi hr (show a / 2 < hh by omega) hS, tab_getD _ _ _ hi, tab_getD _ _ _ hi]
    rw [hw, check_sum2 (v := wordL L n r (2 * (a / 2))) (w := wordL K n r (2 * (a / 2))) (tab_length _ _) (tab_length _ _) hn, tab_getD _ _ _ hi]
  refine ext_getD_nil (by rw [recL_length, sumL_length, recL_length]) fun i hi => ?_
  rw [recL_length] at hi
  rw [sumL_get (by rw [recL_length]; exact hi)]
  unfold recL
  rw [tabL_get _ _ _ hi, tabL_get _ _ _ hi, tabL_get _ _ _ hi, sumL_length, hL, hK]
  refine vol_ext (reg_sum (reg_tab 0 D S _ _)) fun r a hr ha => ?_
  rw [sumV_get (by rw [volL_length]; exact hr), volL_getD hr, volL_getD hr]
  unfold sumR
  rw [rowL_length, range_getD _ _ ha, rowL_getD ha, rowL_getD ha]
  exact key i r a hi hr ha
theorem recCode_sum {D R S M : Int} {L K : List (List (List UInt8))} {d s : Nat} (hD : D = d) (hS : S = s) (h : recCode D R S M L = 0) (hreg : ∀ i, i < L.length → Reg d s (L.getD i [])) : recCode D R S M (sumL L K) = 0 := by
  obtain ⟨h1, h2, h3, h4⟩ := recCode_zero h
  subst hD hS
  have hl := sumL_length L K
  unfold recCode
  rw [if_neg, if_neg (by rw [hl]; omega)]
  rintro (h5 | h5 | h5)
  · rw [h1] at h5; cases h5
  · rw [← List.length_eq_zero_iff, hl] at h5; omega
  · obtain ⟨v, hv, hb⟩ := List.any_eq_true.1 h5
    obtain ⟨i, hi, rfl⟩ := List.getElem_of_mem hv
    rw [hl] at hi
    have hg : Reg d s ((sumL L K).getD i []) := by rw [sumL_get hi]; exact reg_sum (hreg i hi)
    rw [List.getD, List.getElem?_eq_getElem (by rw [hl]; exact hi)] at hg
    have hg2 : Reg d s (sumL L K)[i] := hg
    unfold badR at hb
    rw [fine_reg hg2] at hb
    simp at hb
end Go.Proofs.Ythejbmjleohlfaa
