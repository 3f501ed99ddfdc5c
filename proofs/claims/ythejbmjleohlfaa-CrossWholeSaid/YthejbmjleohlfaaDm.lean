/- What decoding is: the only right word that differs at few places; and that mending by the key equation finds it. -/
import Derived.Test.YthejbmjleohlfaaDw2
import Derived.Test.YthejbmjleohlfaaAp
namespace Go.Proofs.Ythejbmjleohlfaa

/-- At how many places, beside some, two words are unlike. -/
def unl (gs : List Nat) (c l : List F) (n : Nat) : Nat := ((List.range n).filter (fun i => decide (c.getD i 0 ≠ l.getD i 0 ∧ i ∉ gs))).length
theorem unl_zero (gs : List Nat) (c l : List F) : unl gs c l 0 = 0 := rfl
theorem unl_succ (gs : List Nat) (c l : List F) (n : Nat) : unl gs c l (n + 1) = unl gs c l n + if c.getD n 0 ≠ l.getD n 0 ∧ n ∉ gs then 1 else 0 := by
  unfold unl
  rw [List.range_succ, List.filter_append, List.length_append]
  congr 1
  by_cases h : c.getD n 0 ≠ l.getD n 0 ∧ n ∉ gs
  · rw [if_pos h, List.filter_cons_of_pos (by simpa using h)]; rfl
  · rw [if_neg h, List.filter_cons_of_neg (by simpa using h)]; rfl
theorem unl_le (gs : List Nat) (c l : List F) (n : Nat) : unl gs c l n ≤ n := by
  unfold unl
  exact Nat.le_trans (List.length_filter_le _ _) (by simp)

/-- A right word that differs from another one, beside what is gone, at few places. -/
structure Dec (n r : Nat) (gs : List Nat) (l c : List F) : Prop where
  len : c.length = n
  right : Nought c r
  few : 2 * unl gs c l n + gs.length ≤ r

theorem filter_or (p q s : Nat → Bool) (l : List Nat) (h : ∀ i, p i = true → q i = true ∨ s i = true) : (l.filter p).length ≤ (l.filter q).length + (l.filter s).length := by
  induction l with
  | nil => simp
  | cons a l ih =>
    cases hp : p a
    · rw [List.filter_cons_of_neg (by simp [hp])]
      have : (l.filter q).length ≤ ((a :: l).filter q).length := by
        cases hq : q a
        · rw [List.filter_cons_of_neg (by simp [hq])]; exact Nat.le_refl _
        · rw [List.filter_cons_of_pos hq]; simp
      have : (l.filter s).length ≤ ((a :: l).filter s).length := by
        cases hq : s a
        · rw [List.filter_cons_of_neg (by simp [hq])]; exact Nat.le_refl _
        · rw [List.filter_cons_of_pos hq]; simp
      omega
    · rw [List.filter_cons_of_pos hp, List.length_cons]
      have h1 : (l.filter q).length ≤ ((a :: l).filter q).length := by
        cases hq : q a
        · rw [List.filter_cons_of_neg (by simp [hq])]; exact Nat.le_refl _
        · rw [List.filter_cons_of_pos hq]; simp
      have h2 : (l.filter s).length ≤ ((a :: l).filter s).length := by
        cases hq : s a
        · rw [List.filter_cons_of_neg (by simp [hq])]; exact Nat.le_refl _
        · rw [List.filter_cons_of_pos hq]; simp
      rcases h a hp with hq | hq
      · rw [List.filter_cons_of_pos hq] at h1 ⊢
        rw [List.length_cons] at h1 ⊢
        omega
      · rw [List.filter_cons_of_pos hq] at h2 ⊢
        rw [List.length_cons] at h2 ⊢
        omega
theorem filter_one (n g : Nat) : ((List.range n).filter (fun i => decide (i = g))).length ≤ 1 := by
  induction n with
  | zero => simp
  | succ n ih =>
    rw [List.range_succ, List.filter_append, List.length_append]
    by_cases h : n = g
    · subst h
      have : (List.range n).filter (fun i => decide (i = n)) = [] := List.filter_eq_nil_iff.2 fun i hi => by
        have := List.mem_range.1 hi
        simp; omega
      rw [this]
      simp
    · rw [List.filter_cons_of_neg (by simpa using h)]
      simpa using ih
theorem filter_mem (n : Nat) (gs : List Nat) : ((List.range n).filter (fun i => decide (i ∈ gs))).length ≤ gs.length := by
  induction gs with
  | nil => simp
  | cons g gs ih =>
    have := filter_or (fun i => decide (i ∈ g :: gs)) (fun i => decide (i = g)) (fun i => decide (i ∈ gs)) (List.range n) (fun i h => by simpa using h)
    have := filter_one n g
    rw [List.length_cons]
    omega
theorem dec_apart {n r : Nat} {gs : List Nat} {l c d : List F} (hn : n ≤ 255) (h : Dec n r gs l c) (k : Dec n r gs l d) : c = d := by
  refine apart_few (n := n) h.len k.len hn h.right k.right ?_
  have h1 := h.few
  have h2 := k.few
  have h3 := filter_or (fun j => decide (c.getD j 0 ≠ d.getD j 0)) (fun i => decide (i ∈ gs)) (fun i => decide ((c.getD i 0 ≠ l.getD i 0 ∧ i ∉ gs) ∨ (d.getD i 0 ≠ l.getD i 0 ∧ i ∉ gs))) (List.range n) (fun i h => by
    simp only [decide_eq_true_eq] at h ⊢
    by_cases hg : i ∈ gs
    · exact .inl hg
    · by_cases hc : c.getD i 0 = l.getD i 0
      · exact .inr (.inr ⟨fun e => h (hc.trans e.symm), hg⟩)
      · exact .inr (.inl ⟨hc, hg⟩))
  have h4 := filter_or (fun i => decide ((c.getD i 0 ≠ l.getD i 0 ∧ i ∉ gs) ∨ (d.getD i 0 ≠ l.getD i 0 ∧ i ∉ gs))) (fun i => decide (c.getD i 0 ≠ l.getD i 0 ∧ i ∉ gs)) (fun i => decide (d.getD i 0 ≠ l.getD i 0 ∧ i ∉ gs)) (List.range n) (fun i h => by simpa using h)
  have h5 := filter_mem n gs
  unfold unl at h1 h2
  unfold cnt
  omega

/-- With nought at some places. -/
def zeroAt (l : List F) (gs : List Nat) : List F := gs.foldl (fun l i => l.set i 0) l
theorem zeroAt_length (gs : List Nat) : ∀ l : List F, (zeroAt l gs).length = l.length := by
  induction gs with
  | nil => intro l; rfl
  | cons g gs ih => intro l; show (zeroAt (l.set g 0) gs).length = _; rw [ih, List.length_set]
theorem zeroAt_getD (gs : List Nat) : ∀ (l : List F) (i : Nat), (zeroAt l gs).getD i 0 = if i ∈ gs then 0 else l.getD i 0 := by
  induction gs with
  | nil => intro l i; rw [if_neg (by simp)]; rfl
  | cons g gs ih =>
    intro l i
    show (zeroAt (l.set g 0) gs).getD i 0 = _
    rw [ih]
    by_cases h : i ∈ gs
    · rw [if_pos h, if_pos (by simp [h])]
    · rw [if_neg h]
      by_cases hg : g = i
      · subst hg
        rw [if_pos (by simp)]
        by_cases hl : g < l.length
        · exact getD_set_eq _ hl
        · exact getD_out (by rw [List.length_set]; omega)
      · rw [getD_set_ne _ hg, if_neg (by simp only [List.mem_cons, not_or]; exact ⟨fun e => hg e.symm, h⟩)]
theorem zeroAt_snoc (l : List F) (gs : List Nat) (g : Nat) : zeroAt l (gs ++ [g]) = (zeroAt l gs).set g 0 := by rw [zeroAt, List.foldl_append]; rfl
theorem zeroAt_take (l : List F) {gs : List Nat} {k : Nat} (h : k < gs.length) : zeroAt l (gs.take (k + 1)) = (zeroAt l (gs.take k)).set (gs.getD k 0) 0 := by
  rw [List.take_succ_eq_append_getElem h, zeroAt_snoc, List.getD, List.getElem?_eq_getElem h]
  rfl

theorem pv_sumsL {n r : Nat} {l c : List F} {e : Nat → F} {I : List Nat} (hl : l.length = n) (hc : c.length = n) (hr : Nought c r) (he : ∀ i, i < n → e i = c.getD i 0 + l.getD i 0) (hnd : I.Nodup) (hlt : ∀ i ∈ I, i < n) (h0 : ∀ i, i < n → i ∉ I → e i = 0) (x : F) :
    pv (sumsL l r) x = ssum n r e I x := by
  rw [sumsL, pv_tab]
  have h1 : ∀ j, j < r → hv l (F.px j) = fsum n (fun i => e i * F.pow (F.px (n - 1 - i)) j) := fun j hj => by
    have h2 := hv_sum2 c l n hc hl (F.px j)
    rw [hr j hj, F.zero_add] at h2
    rw [← h2, hv_tab]
    refine fsum_congr fun i hi => ?_
    rw [he i hi, px_pow_swap]
  rw [fsum_congr (g := fun j => fsum n (fun i => e i * F.pow (F.px (n - 1 - i) * x) j)) (fun j hj => by
    rw [h1 j hj, fsum_mul]
    refine fsum_congr fun i _ => ?_
    rw [F.mul_pow, F.mul_assoc])]
  rw [fsum_swap, ssum, ← lsum_fsum I n _ hnd hlt (fun i hi hn => by rw [h0 i hi hn, F.zero_mul])]
  refine fsum_congr fun i _ => ?_
  rw [mul_fsum]

/-- MENDED BY THE KEY EQUATION'S ANSWER, a word is the right one that differs at few places, if there is one. -/
theorem dec_mend {n r : Nat} {gs : List Nat} {l c t b : List F} (hn : n ≤ 255) (hr : r ≤ n) (hl : l.length = n) (hnd : gs.Nodup) (hlt : ∀ i ∈ gs, i < n) (h : Dec n r gs l c)
    (hloc : Located r gs.length (shortL ((mulL (goneL n gs) (sumsL (zeroAt l gs) r)).take r)) t b) : mendL n (zeroAt l gs) (mulL t (goneL n gs)) b = c := by
  obtain ⟨z, hz⟩ : ∃ z, z = zeroAt l gs := ⟨_, rfl⟩
  have hzl : z.length = n := by rw [hz, zeroAt_length, hl]
  rw [← hz] at hloc ⊢
  obtain ⟨es, hes⟩ : ∃ es, es = (List.range n).filter (fun i => decide (c.getD i 0 ≠ l.getD i 0 ∧ i ∉ gs)) := ⟨_, rfl⟩
  have hmem : ∀ i, i ∈ es ↔ i < n ∧ c.getD i 0 ≠ l.getD i 0 ∧ i ∉ gs := fun i => by
    rw [hes, List.mem_filter, List.mem_range, decide_eq_true_eq]
  have hcnt : 2 * es.length + gs.length ≤ r := by
    have := h.few
    unfold unl at this
    rw [← hes] at this
    exact this
  have hzg : ∀ i, i ∉ gs → z.getD i 0 = l.getD i 0 := fun i hi => by rw [hz, zeroAt_getD, if_neg hi]
  have hnd2 : (es ++ gs).Nodup := List.nodup_append.2 ⟨by rw [hes]; exact List.Nodup.sublist List.filter_sublist List.nodup_range, hnd, fun a ha b hb e => ((hmem a).1 ha).2.2 (e ▸ hb)⟩
  have hlt2 : ∀ i ∈ es ++ gs, i < n := fun i hi => by
    rcases List.mem_append.1 hi with hi | hi
    · exact ((hmem i).1 hi).1
    · exact hlt i hi
  have he0 : ∀ i, i < n → i ∉ es ++ gs → c.getD i 0 + z.getD i 0 = 0 := fun i hi hni => by
    rw [List.mem_append, not_or] at hni
    refine F.add_eq_zero.2 ?_
    rw [hzg i hni.2]
    exact Classical.byContradiction fun hne => hni.1 ((hmem i).2 ⟨hi, hne, hni.2⟩)
  have hlen : (mendL n z (mulL t (goneL n gs)) b).length = n := tab_length _ _
  refine ext_getD (hlen.trans h.len.symm) fun k hk => ?_
  rw [hlen] at hk
  rw [mendL, tab_getD _ _ _ hk, mendAt]
  have hx := F.mul_inv (F.px_ne_zero (n - 1 - k))
  obtain ⟨k1, k2⟩ := key_mend (e := fun i => c.getD i 0 + z.getD i 0) hn hr hnd2 hlt2 hcnt (fun i hi e => ((hmem i).1 hi).2.1 (by rw [F.add_eq_zero.1 e, hzg i ((hmem i).1 hi).2.2]))
    (by rw [sumsL_length]; exact Nat.le_refl _) (pv_sumsL hzl h.len h.right (fun _ _ => rfl) hnd2 hlt2 he0) rfl hloc k hk _ hx
  by_cases hI : k ∈ es ++ gs
  · obtain ⟨m1, m2, m3⟩ := k2 hI
    rw [if_pos ⟨m1, m2⟩, ← F.mul_assoc, m3, F.mul_assoc, F.mul_inv m2, F.mul_one, F.add_comm (c.getD k 0), F.add_cancel_left]
  · have m1 := k1 hI
    rw [if_neg (fun h => m1 h.1)]
    exact (F.add_eq_zero.1 (he0 k hk hI)).symm
end Go.Proofs.Ythejbmjleohlfaa
