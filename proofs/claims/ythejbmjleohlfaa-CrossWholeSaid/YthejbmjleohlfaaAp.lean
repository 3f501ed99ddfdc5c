/- Unlike right words of one length differ in more places than there are checks: the plain law. -/
import Derived.Test.YthejbmjleohlfaaRsr
namespace Go.Proofs.Ythejbmjleohlfaa

/-- At how many of the first i places two words are unlike. -/
def cnt (v w : List F) (i : Nat) : Nat := ((List.range i).filter (fun j => decide (v.getD j 0 ≠ w.getD j 0))).length
theorem cnt_ne {v w : List F} {i : Nat} (h : v.getD i 0 ≠ w.getD i 0) : cnt v w (i + 1) = cnt v w i + 1 := by
  unfold cnt
  rw [List.range_succ, List.filter_append, List.length_append, List.filter_cons_of_pos (p := fun j => decide (v.getD j 0 ≠ w.getD j 0)) (decide_eq_true h), List.filter_nil]
  rfl
theorem cnt_eq {v w : List F} {i : Nat} (h : v.getD i 0 = w.getD i 0) : cnt v w (i + 1) = cnt v w i := by
  unfold cnt
  rw [List.range_succ, List.filter_append, List.length_append, List.filter_cons_of_neg (p := fun j => decide (v.getD j 0 ≠ w.getD j 0)) (by rw [decide_eq_true_iff]; exact fun h2 => h2 h), List.filter_nil]
  rfl
theorem cnt_le (v w : List F) (i : Nat) : cnt v w i ≤ i := by
  unfold cnt
  exact Nat.le_trans (List.length_filter_le _ _) (by simp)
theorem cnt_places (v w : List F) (n : Nat) : (places (tab n (fun i => v.getD i 0 + w.getD i 0))).length = cnt v w n := by
  unfold places cnt
  rw [tab_length]
  congr 1
  refine List.filter_congr fun i hi => ?_
  rw [List.mem_range] at hi
  rw [tab_getD _ _ _ hi]
  congr 1
  apply propext
  exact not_congr F.add_eq_zero
theorem hv_sum2 (v w : List F) (n : Nat) (hv' : v.length = n) (hw : w.length = n) (y : F) : hv (tab n (fun i => v.getD i 0 + w.getD i 0)) y = hv v y + hv w y := by
  rw [hv_tab_add]
  have e1 := tab_self v
  have e2 := tab_self w
  rw [hv'] at e1
  rw [hw] at e2
  rw [← e1, ← e2]
theorem apart_few {v w : List F} {n r : Nat} (hv' : v.length = n) (hw : w.length = n) (hn : n ≤ 255) (h1 : Nought v r) (h2 : Nought w r) (hc : cnt v w n ≤ r) : v = w := by
  have hz := nought_few (w := tab n (fun i => v.getD i 0 + w.getD i 0)) (r := r) (fun j hj => by rw [hv_sum2 v w n hv' hw, h1 j hj, h2 j hj, F.add_zero]) (by rw [tab_length]; omega) (by rw [cnt_places]; exact hc)
  refine ext_getD (by rw [hv', hw]) fun j hj => ?_
  have := hz j
  rw [tab_getD _ _ _ (by omega)] at this
  exact F.add_eq_zero.1 this
theorem cnt_same {v : List F} (n : Nat) : cnt v v n = 0 := by
  unfold cnt
  simp
end Go.Proofs.Ythejbmjleohlfaa
