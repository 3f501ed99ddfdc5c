/- What Mend tells are volumes and their recovery volumes; of one row of each. Plain. -/
import Derived.Test.YthejbmjleohlfaaCu
namespace Go.Proofs.Ythejbmjleohlfaa
set_option linter.unusedVariables false
set_option linter.unusedSimpArgs false
open Go.RowKit

theorem check_unique {s t : List F} {n M : Nat} (hs : s.length = n) (ht : t.length = M) (hn : n + M ≤ 255) (h : Nought (s ++ t) M) : checkL s M = t := by
  have fewer : ∀ d : List F, unl ((List.range M).map (n + ·)) (s ++ d) (s ++ checkL s M) (n + M) = 0 := fun d => by
    unfold unl
    rw [List.length_eq_zero_iff, List.filter_eq_nil_iff]
    intro i hi h
    have hi := List.mem_range.1 hi
    simp only [decide_eq_true_eq] at h
    rcases Nat.lt_or_ge i n with h1 | h1
    · exact h.1 (by rw [List.getD, List.getD, List.getElem?_append_left (by omega), List.getElem?_append_left (by omega)])
    · exact h.2 (List.mem_map.2 ⟨i - n, List.mem_range.2 (by omega), by omega⟩)
  have dec : ∀ d : List F, d.length = M → Nought (s ++ d) M → Dec (n + M) M ((List.range M).map (n + ·)) (s ++ checkL s M) (s ++ d) := fun d hl hno => ⟨by rw [List.length_append, hs, hl], hno, by rw [fewer, List.length_map, List.length_range]; omega⟩
  exact List.append_cancel_left (dec_apart hn (dec _ (checkL_length _ _) (fun j hj => hv_word _ M j hj)) (dec _ ht h))
theorem recCode_reg {d s m n : Nat} {R : Int} {P : List (List (List UInt8))} (h1 : shapeB d R s m = true) (hl : P.length = n) (hn1 : 1 ≤ n) (hn : n + m ≤ 96) (hreg : ∀ i, i < n → Reg d s (P.getD i [])) : recCode d R s m P = 0 := by
  subst hl
  unfold recCode
  rw [if_neg, if_neg (by omega)]
  rintro (h5 | h5 | h5)
  · rw [h1] at h5; cases h5
  · rw [← List.length_eq_zero_iff] at h5; omega
  · obtain ⟨v, hv, hb⟩ := List.any_eq_true.1 h5
    obtain ⟨i, hi, rfl⟩ := List.getElem_of_mem hv
    have hg := hreg i hi
    rw [List.getD, List.getElem?_eq_getElem hi] at hg
    have hg2 : Reg d s P[i] := hg
    unfold badR at hb
    rw [fine_reg hg2] at hb
    simp at hb
/-- Volumes whose words are right are some volumes and their recovery volumes. -/
theorem made_split {d s m hh k : Nat} {f : Nat → Nat → List F} (hd : 1 ≤ d) (hs : s = 2 * hh) (hk : k + m ≤ 255) (hl : ∀ r p, r < d → p < hh → (f r p).length = k + m) (hno : ∀ r p, r < d → p < hh → Nought (f r p) m) :
    tabL (k + m) d s (mendF f) = tabL k d s (mendF f) ++ recL d s m (tabL k d s (mendF f)) := by
  have hP : (tabL k d s (mendF f)).length = k := tabL_length _ _ _ _
  have hG : ∀ r p i, r < d → p < hh → i < k + m → symL (tabL (k + m) d s (mendF f)) i r (2 * p) = (f r p).getD i 0 := fun r p i hr hp hi => sym_tab hi hd hr hp hs fun a ha => by unfold mendF; rw [ha]
  have hGP : ∀ r p i, r < d → p < hh → i < k → symL (tabL k d s (mendF f)) i r (2 * p) = (f r p).getD i 0 := fun r p i hr hp hi => sym_tab hi hd hr hp hs fun a ha => by unfold mendF; rw [ha]
  refine tab_vols hd hs (by rw [List.length_append, hP, recL_length]) (fun i hi => ?_) fun r p hr hp => ?_
  · rcases Nat.lt_or_ge i k with h | h
    · rw [List.getD, List.getElem?_append_left (by rw [hP]; exact h), ← List.getD, tabL_get _ _ _ h]
      exact reg_tab 0 d s _ _
    · rw [List.getD, List.getElem?_append_right (by rw [hP]; exact h), hP, ← List.getD]
      exact reg_rec d s m _ _ (by omega)
  · rw [word_all hP hd hr hp hs]
    have hsplit : f r p = wordL (tabL k d s (mendF f)) k r (2 * p) ++ tab m (fun i => (f r p).getD (k + i) 0) := by
      refine ext_getD (by rw [List.length_append, tab_length, hl r p hr hp]; unfold wordL; rw [tab_length]) fun i hi => ?_
      rw [hl r p hr hp] at hi
      rcases Nat.lt_or_ge i k with h | h
      · rw [List.getD, List.getD, List.getElem?_append_left (by unfold wordL; rw [tab_length]; exact h), ← List.getD, ← List.getD]
        unfold wordL
        rw [tab_getD _ _ _ h, hGP r p i hr hp h]
      · rw [List.getD, List.getD, List.getElem?_append_right (by unfold wordL; rw [tab_length]; exact h), ← List.getD, ← List.getD]
        have e : (wordL (tabL k d s (mendF f)) k r (2 * p)).length = k := by unfold wordL; rw [tab_length]
        rw [e, tab_getD _ _ _ (by omega), show k + (i - k) = i by omega]
    have hu := check_unique (s := wordL (tabL k d s (mendF f)) k r (2 * p)) (t := tab m (fun i => (f r p).getD (k + i) 0)) (n := k) (M := m) (by unfold wordL; rw [tab_length]) (tab_length _ _) hk (by rw [← hsplit]; exact hno r p hr hp)
    rw [hu]
    exact hsplit
/-- One row of each volume. -/
def rowsL (P : List (List (List UInt8))) (r : Nat) : List (List (List UInt8)) := (List.range P.length).map fun i => [(P.getD i []).getD r []]
theorem rowsL_length (P : List (List (List UInt8))) (r : Nat) : (rowsL P r).length = P.length := by simp [rowsL]
theorem rowsL_get {P : List (List (List UInt8))} {r i : Nat} (h : i < P.length) : (rowsL P r).getD i [] = [(P.getD i []).getD r []] := range_getD _ _ h
theorem reg_rows {d s n r : Nat} {P : List (List (List UInt8))} (hl : P.length = n) (hreg : ∀ i, i < n → Reg d s (P.getD i [])) (hr : r < d) (i : Nat) (hi : i < n) : Reg 1 s ((rowsL P r).getD i []) := by
  rw [rowsL_get (by rw [hl]; exact hi)]
  refine ⟨rfl, fun q hq => ?_⟩
  obtain rfl : q = 0 := by omega
  exact (hreg i hi).2 r hr
theorem rec_rows {d s m n hh r : Nat} {P : List (List (List UInt8))} (hl : P.length = n) (hreg : ∀ i, i < n → Reg d s (P.getD i [])) (hr : r < d) (hs : s = 2 * hh) (i : Nat) (hi : i < m) : (recL 1 s m (rowsL P r)).getD i [] = [((recL d s m P).getD i []).getD r []] := by
  have hw : ∀ a, wordL (rowsL P r) n 0 a = wordL P n r a := fun a => by
    unfold wordL
    refine tab_congr fun j hj => ?_
    unfold symL
    rw [rowsL_get (by rw [hl]; exact hj), if_pos (by simp), if_pos (by rw [(hreg j hj).1]; omega)]
    rfl
  unfold recL
  rw [tabL_get _ _ _ hi, tabL_get _ _ _ hi, volL_getD hr, rowsL_length, hl]
  show (List.range 1).map _ = _
  rw [show List.range 1 = [0] from rfl, List.map_singleton]
  congr 1
  unfold rowL
  refine List.map_congr_left fun a ha => ?_
  unfold recF
  rw [hw]
theorem shape_one {d s m : Nat} {R : Int} (h : shapeB d R s m = true) : shapeB (1 : Nat) R s m = true := by
  have := shapeB_iff.1 h
  refine shapeB_iff.2 ?_
  obtain ⟨_, _, h3, h4, h5, h6, h7, h8, h9⟩ := this
  exact ⟨by omega, by omega, h3, h4, h5, h6, h7, h8, h9⟩
end Go.Proofs.Ythejbmjleohlfaa
