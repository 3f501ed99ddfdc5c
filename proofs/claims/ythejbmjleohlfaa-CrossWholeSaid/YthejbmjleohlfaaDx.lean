/- What decode.may says: each place of the word, and none twice. -/
import Derived.Test.YthejbmjleohlfaaSs2
namespace Go.Proofs.Ythejbmjleohlfaa
open Go.RowKit Go.Shelf

theorem keeps_iff (l : List Int) (j : Nat) (hj : j < l.length) : Lib.keeps l.toArray j = true ↔ j = 0 ∨ l[j]? ≠ l[j - 1]? := by
  have e1 : l.toArray[j]! = l[j]'hj := by simp [hj]
  have e2 : l.toArray[j - 1]! = l[j - 1]'(by omega) := by simp [show j - 1 < l.length by omega]
  unfold Lib.keeps
  rw [e1, e2, List.getElem?_eq_getElem hj, List.getElem?_eq_getElem (show j - 1 < l.length by omega)]
  simp
theorem compactI_all (l : List Int) : (compactI l).length = l.length ↔ ∀ j, j < l.length → 0 < j → l[j]? ≠ l[j - 1]? := by
  have e : (compactI l).length = ((List.range l.length).filter (Lib.keeps l.toArray)).length := by
    unfold compactI Lib.compactUpTo
    rw [List.length_map]
    rfl
  rw [e]
  constructor
  · intro h j hj h0
    have h2 : ((List.range l.length).filter (Lib.keeps l.toArray)).length = (List.range l.length).length := by rw [h, List.length_range]
    have := List.length_filter_eq_length_iff.1 h2 j (List.mem_range.2 hj)
    rcases (keeps_iff l j hj).1 this with h3 | h3
    · omega
    · exact h3
  · intro h
    have h2 : ((List.range l.length).filter (Lib.keeps l.toArray)).length = (List.range l.length).length := List.length_filter_eq_length_iff.2 fun j hj => by
      have hj := List.mem_range.1 hj
      refine (keeps_iff l j hj).2 ?_
      rcases Nat.eq_zero_or_pos j with h0 | h0
      · exact .inl h0
      · exact .inr (h j hj h0)
    rw [h2, List.length_range]
theorem sortedI_pair (zs : List Int) : (sortedI zs).Pairwise (fun a b => a ≤ b) := by
  have h := List.pairwise_mergeSort (le := fun x y : Int => decide (x ≤ y)) (fun a b c h1 h2 => by simp at *; omega) (fun a b => by simp; omega) zs
  exact h.imp (fun h => by simpa using h)
theorem sortedI_perm (zs : List Int) : (sortedI zs).Perm zs := List.mergeSort_perm _ _
theorem mayB_iff {n : Nat} {r : Int} {zs : List Int} : mayB n r zs = true ↔ (1 ≤ n ∧ n ≤ 255 ∧ 0 ≤ r ∧ r ≤ (n : Int)) ∧ zs.Nodup ∧ ∀ z ∈ zs, 0 ≤ z ∧ z < (n : Int) := by
  have hp := sortedI_perm zs
  have hs := sortedI_pair zs
  have hl := sortedI_length zs
  unfold mayB
  rw [decide_eq_true_iff]
  obtain ⟨s, hse⟩ : ∃ s, s = sortedI zs := ⟨_, rfl⟩
  rw [← hse] at hp hs hl ⊢
  have hmem : ∀ z, z ∈ zs ↔ z ∈ s := fun z => hp.mem_iff.symm
  rw [← hl, compactI_all]
  have hget := List.pairwise_iff_getElem.1 hs
  constructor
  · rintro ⟨g1, g2, g3, g4, h⟩
    refine ⟨⟨g1, g2, g3, g4⟩, ?_⟩
    rcases h with h | ⟨h1, h2, h3⟩
    · subst h
      exact ⟨List.nodup_nil, by simp⟩
    · refine ⟨hp.nodup_iff.1 ?_, fun z hz => ?_⟩
      · refine List.pairwise_iff_getElem.2 fun i j hi hj hij e => ?_
        have h4 := h3 j hj (by omega)
        rw [List.getElem?_eq_getElem hj, List.getElem?_eq_getElem (show j - 1 < s.length by omega)] at h4
        have h4 : s[j] ≠ s[j - 1] := fun e => h4 (by rw [e])
        have h5 := hget (j - 1) j (by omega) hj (by omega)
        have h6 : s[i] ≤ s[j - 1]'(by omega) := by
          rcases Nat.lt_or_ge i (j - 1) with h | h
          · exact hget i (j - 1) hi (by omega) h
          · have : i = j - 1 := by omega
            subst this
            exact Int.le_refl _
        omega
      · obtain ⟨i, hi, rfl⟩ := List.getElem_of_mem ((hmem z).1 hz)
        rw [List.getElem?_eq_getElem (show 0 < s.length by omega)] at h1
        rw [List.getElem?_eq_getElem (show s.length - 1 < s.length by omega)] at h2
        simp only [Option.getD_some] at h1 h2
        have h6 : s[0]'(by omega) ≤ s[i] := by
          rcases Nat.eq_zero_or_pos i with h | h
          · subst h; exact Int.le_refl _
          · exact hget 0 i (by omega) hi h
        have h7 : s[i] ≤ s[s.length - 1]'(by omega) := by
          rcases Nat.lt_or_ge i (s.length - 1) with h | h
          · exact hget i _ hi (by omega) h
          · have : i = s.length - 1 := by omega
            subst this
            exact Int.le_refl _
        omega
  · rintro ⟨⟨g1, g2, g3, g4⟩, hnd, hb⟩
    refine ⟨g1, g2, g3, g4, ?_⟩
    by_cases h0 : zs = []
    · exact .inl h0
    · have hpos : 0 < s.length := by rw [hl]; exact List.length_pos_iff.2 h0
      refine .inr ⟨?_, ?_, fun j hj hj0 e => ?_⟩
      · rw [List.getElem?_eq_getElem hpos]
        exact (hb _ ((hmem _).2 (List.getElem_mem hpos))).1
      · rw [List.getElem?_eq_getElem (show s.length - 1 < s.length by omega)]
        exact (hb _ ((hmem _).2 (List.getElem_mem _))).2
      · have hnd2 := hp.nodup_iff.2 hnd
        have := List.pairwise_iff_getElem.1 hnd2 (j - 1) j (by omega) hj (by omega)
        rw [List.getElem?_eq_getElem hj, List.getElem?_eq_getElem (show j - 1 < s.length by omega)] at e
        injection e with e
        exact this e.symm
/-- Places as numbers. -/
theorem places_of {n : Nat} {r : Int} {zs : List Int} (h : mayB n r zs = true) : ∃ gs : List Nat, zs = gs.map (fun g : Nat => (g : Int)) ∧ gs.Nodup ∧ ∀ g ∈ gs, g < n := by
  obtain ⟨_, h1, h2⟩ := mayB_iff.1 h
  refine ⟨zs.map Int.toNat, ?_, ?_, fun g hg => ?_⟩
  · rw [List.map_map]
    have e : zs.map ((fun g : Nat => (g : Int)) ∘ Int.toNat) = zs.map id := List.map_congr_left fun z hz => by
      have := h2 z hz
      show ((z.toNat : Nat) : Int) = z
      omega
    rw [e, List.map_id]
  · refine List.pairwise_map.2 (h1.imp_of_mem fun ha hb hne e => hne ?_)
    have := h2 _ ha
    have := h2 _ hb
    omega
  · obtain ⟨z, hz, rfl⟩ := List.mem_map.1 hg
    have := h2 z hz
    omega
end Go.Proofs.Ythejbmjleohlfaa
