/- A word with some places filled in: the equations, and their solutions; the plain law. -/
import Derived.Test.YtbahelhhkmonmaaDm
import Derived.Test.YtbahelhhkmonmaaLe
namespace Go.Proofs.Ytbahelhhkmonmaa

/-- Some places set, one after another. -/
def fillTo (z : List F) (ps : List Nat) (x : Nat → F) : Nat → List F
  | 0 => z
  | k + 1 => (fillTo z ps x k).set (ps.getD k 0) (x k)
theorem fillTo_length (z : List F) (ps : List Nat) (x : Nat → F) (k : Nat) : (fillTo z ps x k).length = z.length := by
  induction k with
  | zero => rfl
  | succ k ih => rw [fillTo, List.length_set, ih]
theorem getD_mem {ps : List Nat} {k : Nat} (h : k < ps.length) : ps.getD k 0 ∈ ps := by
  rw [List.getD, List.getElem?_eq_getElem h]; exact List.getElem_mem _
theorem getD_not {ps : List Nat} {i : Nat} (hi : i ∉ ps) : ∀ m, m < ps.length → ps.getD m 0 ≠ i := fun m hm e => hi (by rw [← e]; exact getD_mem hm)
theorem getD_inj {ps : List Nat} (hnd : ps.Nodup) {i k : Nat} (hi : i < ps.length) (hk : k < ps.length) (h : ps.getD i 0 = ps.getD k 0) : i = k := by
  rw [List.getD, List.getElem?_eq_getElem hi, List.getD, List.getElem?_eq_getElem hk] at h
  rcases Nat.lt_trichotomy i k with h1 | h1 | h1
  · exact absurd h (List.pairwise_iff_getElem.1 hnd i k hi hk h1)
  · exact h1
  · exact absurd h.symm (List.pairwise_iff_getElem.1 hnd k i hk hi h1)
theorem mem_getD {ps : List Nat} {i : Nat} (h : i ∈ ps) : ∃ k, k < ps.length ∧ ps.getD k 0 = i := by
  obtain ⟨k, hk, e⟩ := List.getElem_of_mem h
  exact ⟨k, hk, by rw [List.getD, List.getElem?_eq_getElem hk]; exact e⟩
theorem fillTo_out (z : List F) {ps : List Nat} (x : Nat → F) {i : Nat} (k : Nat) (h : ∀ m, m < k → ps.getD m 0 ≠ i) : (fillTo z ps x k).getD i 0 = z.getD i 0 := by
  induction k with
  | zero => rfl
  | succ k ih => rw [fillTo, getD_set_ne _ (h k (by omega)), ih (fun m hm => h m (by omega))]
theorem fillTo_in (z : List F) {ps : List Nat} (x : Nat → F) (hnd : ps.Nodup) (hlt : ∀ p ∈ ps, p < z.length) {m : Nat} (k : Nat) (hm : m < k) (hk : k ≤ ps.length) : (fillTo z ps x k).getD (ps.getD m 0) 0 = x m := by
  induction k with
  | zero => omega
  | succ k ih =>
    rw [fillTo]
    by_cases e : m = k
    · subst e
      exact getD_set_eq _ (by rw [fillTo_length]; exact hlt _ (getD_mem (by omega)))
    · rw [getD_set_ne _ (fun h => e (getD_inj hnd (by omega) (by omega) h.symm)), ih (by omega) (by omega)]
theorem hv_set {l : List F} {p : Nat} (hp : p < l.length) (a x : F) : hv (l.set p a) x = hv l x + (l.getD p 0 + a) * F.pow x (l.length - 1 - p) := by
  have h := hv_sum2 (l.set p a) l l.length (List.length_set) rfl x
  have h2 : hv (tab l.length (fun i => (l.set p a).getD i 0 + l.getD i 0)) x = (l.getD p 0 + a) * F.pow x (l.length - 1 - p) := by
    rw [hv_tab, fsum_one p hp _ (fun i _ hi => by rw [getD_set_ne _ (fun e => hi e.symm), F.add_self, F.zero_mul]), getD_set_eq _ hp, F.add_comm a]
  rw [h2] at h
  rw [h, F.add_comm (hv (l.set p a) x), F.add_cancel_left]
/-- The equations for the places that are to be filled in. -/
def eqF (n : Nat) (ps : List Nat) (s : List F) : Nat → Nat → F := fun j i => if i < ps.length then F.px (j * (n - 1 - ps.getD i 0)) else s.getD j 0
theorem hv_fill {n : Nat} {z : List F} {ps : List Nat} (x : Nat → F) (hz : z.length = n) (hnd : ps.Nodup) (hlt : ∀ p ∈ ps, p < n) (h0 : ∀ p ∈ ps, z.getD p 0 = 0) (y : F) (k : Nat) (hk : k ≤ ps.length) :
    hv (fillTo z ps x k) y = hv z y + fsum k (fun i => x i * F.pow y (n - 1 - ps.getD i 0)) := by
  induction k with
  | zero => exact (F.add_zero _).symm
  | succ k ih =>
    rw [fillTo, hv_set (by rw [fillTo_length, hz]; exact hlt _ (getD_mem (by omega))), ih (by omega), fillTo_length, hz,
      fillTo_out z x k (fun m hm e => by have := getD_inj hnd (by omega) (by omega) e; omega), h0 _ (getD_mem (by omega)), F.zero_add, F.add_assoc]
    rfl
theorem fill_sol {n r : Nat} {z : List F} {ps : List Nat} (x : Nat → F) (hz : z.length = n) (hnd : ps.Nodup) (hlt : ∀ p ∈ ps, p < n) (h0 : ∀ p ∈ ps, z.getD p 0 = 0) :
    Sol r ps.length (eqF n ps (sumsL z r)) x ↔ Nought (fillTo z ps x ps.length) r := by
  have key : ∀ j, j < r → (fsum ps.length (fun k => eqF n ps (sumsL z r) j k * x k) = eqF n ps (sumsL z r) j ps.length ↔ hv (fillTo z ps x ps.length) (F.px j) = 0) := fun j hj => by
    rw [hv_fill x hz hnd hlt h0 _ _ (Nat.le_refl _)]
    have e1 : fsum ps.length (fun k => eqF n ps (sumsL z r) j k * x k) = fsum ps.length (fun i => x i * F.pow (F.px j) (n - 1 - ps.getD i 0)) := fsum_congr fun i hi => by
      unfold eqF
      rw [if_pos hi, F.px_mul, F.mul_comm]
    have e2 : eqF n ps (sumsL z r) j ps.length = hv z (F.px j) := by
      unfold eqF
      rw [if_neg (by omega), sumsL, tab_getD _ _ _ hj]
    rw [e1, e2, F.add_eq_zero]
    exact eq_comm
  exact ⟨fun h j hj => (key j hj).1 (h j hj), fun h j hj => (key j hj).2 (h j hj)⟩
/-- Filled in. -/
structure Filled (n r : Nat) (ps : List Nat) (l d : List F) : Prop where
  len : d.length = n
  out : ∀ i, i ∉ ps → d.getD i 0 = l.getD i 0
  right : Nought d r
theorem filled_yes {n r : Nat} {l : List F} {ps : List Nat} {x : Nat → F} (hl : l.length = n) (hnd : ps.Nodup) (hlt : ∀ p ∈ ps, p < n) (h : Sol r ps.length (eqF n ps (sumsL (zeroAt l ps) r)) x) :
    Filled n r ps l (fillTo (zeroAt l ps) ps x ps.length) := by
  have hz : (zeroAt l ps).length = n := by rw [zeroAt_length, hl]
  refine ⟨by rw [fillTo_length, hz], fun i hi => ?_, (fill_sol x hz hnd hlt (fun p hp => by rw [zeroAt_getD, if_pos hp])).1 h⟩
  rw [fillTo_out _ _ _ (getD_not hi), zeroAt_getD, if_neg hi]
theorem filled_no {n r : Nat} {l : List F} {ps : List Nat} (hn : n ≤ 255) (hl : l.length = n) (hnd : ps.Nodup) (hlt : ∀ p ∈ ps, p < n) (hm : ps.length ≤ r)
    (h : ∀ x, Sol r ps.length (eqF n ps (sumsL (zeroAt l ps) r)) x → ∃ y, Sol r ps.length (eqF n ps (sumsL (zeroAt l ps) r)) y ∧ ∃ k, k < ps.length ∧ y k ≠ x k) (d : List F) : ¬ Filled n r ps l d := fun hd => by
  have hz : (zeroAt l ps).length = n := by rw [zeroAt_length, hl]
  have h0 : ∀ p ∈ ps, (zeroAt l ps).getD p 0 = 0 := fun p hp => by rw [zeroAt_getD, if_pos hp]
  have hdx : d = fillTo (zeroAt l ps) ps (fun k => d.getD (ps.getD k 0) 0) ps.length := by
    refine ext_getD (by rw [fillTo_length, hz, hd.len]) fun i _ => ?_
    by_cases hi : i ∈ ps
    · obtain ⟨k, hk, rfl⟩ := mem_getD hi
      rw [fillTo_in _ _ hnd (by rw [hz]; exact hlt) _ hk (Nat.le_refl _)]
    · rw [fillTo_out _ _ _ (getD_not hi), zeroAt_getD, if_neg hi, hd.out i hi]
  have hs := (fill_sol (r := r) (fun k => d.getD (ps.getD k 0) 0) hz hnd hlt h0).2 (by rw [← hdx]; exact hd.right)
  obtain ⟨y, hy, k, hk, hne⟩ := h _ hs
  have hy2 := filled_yes hl hnd hlt hy
  have hsame : fillTo (zeroAt l ps) ps y ps.length = d := by
    refine apart_few (n := n) hy2.len hd.len hn hy2.right hd.right ?_
    have h1 := filter_mem n ps
    have h2 := filter_or (fun j => decide ((fillTo (zeroAt l ps) ps y ps.length).getD j 0 ≠ d.getD j 0)) (fun i => decide (i ∈ ps)) (fun _ => false) (List.range n) (fun i h => by
      simp only [decide_eq_true_eq] at h
      refine .inl (decide_eq_true ?_)
      exact Classical.byContradiction fun hi => h (by rw [hy2.out i hi, hd.out i hi]))
    have h3 : ((List.range n).filter (fun _ => false)).length = 0 := by simp
    unfold cnt
    omega
  exact hne (by rw [← hsame, fillTo_in _ _ hnd (by rw [hz]; exact hlt) _ hk (Nat.le_refl _)])
end Go.Proofs.Ytbahelhhkmonmaa
