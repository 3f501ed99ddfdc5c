/- A matrix in memory: a slice of rows, each of its own. -/
import Derived.Test.YtbahelhhkmonmaaOg
import Derived.Test.YtbahelhhkmonmaaLe
namespace Go.Proofs.Ytbahelhhkmonmaa
open Go.RowKit

theorem row_el : El 53 22 (.slice none 0 0) 24 := ⟨Try.underlying53, by kernel_rfl, by decide, rfl⟩
/-- A row's header. -/
def rowV (n : Nat) (h : Nat → Nat × Nat) (i : Nat) : Value := .slice (some ⟨(h i).1, 0, none⟩) (n + 1) (h i).2
theorem rowV_one (n : Nat) (h : Nat → Nat × Nat) (i : Nat) : (rowV n h i).oneCell' = true := rfl
/-- R rows of n + 1 numbers f, their headers behind A. -/
structure Mat (w : World) (B : Nat) (A : Option Addr) (cg R n : Nat) (h : Nat → Nat × Nat) (f : Nat → Nat → F) : Prop where
  top : OwnV 22 w B A R cg ((List.range R).map (rowV n h))
  rows : ∀ i, i < R → Own w B (some ⟨(h i).1, 0, none⟩) (n + 1) (h i).2 (tab (n + 1) (f i))
  inj : ∀ i j, i < R → j < R → (h i).1 = (h j).1 → i = j
theorem tab_fun {n : Nat} {f g : Nat → F} (h : ∀ j, j < n → f j = g j) : tab n f = tab n g := tab_congr h
theorem OwnV.heapAt {E : TypeId} {w : World} {B n c g : Nat} {l : List Value} (h : OwnV E w B (some ⟨g, 0, none⟩) n c l) : ∃ cur, w.heap[g]? = some (.cells cur E (0, 0)) := by
  rcases h.2.2 with ⟨hv, _⟩ | ⟨g', cap, cur, hv, _, hg, _⟩
  · cases hv
  · injection hv with hv; injection hv with hv; injection hv with hv; subst hv
    exact ⟨cur, hg⟩
theorem Own.heapAt {w : World} {B n c g : Nat} {l : List F} (h : Own w B (some ⟨g, 0, none⟩) n c l) : ∃ cur, w.heap[g]? = some (.cells cur 29 (0, 0)) := h.toV.heapAt
theorem own_apart {w : World} {B B' n m c d g g' : Nat} {l : List F} {vs : List Value} (h : Own w B (some ⟨g, 0, none⟩) n c l) (k : OwnV 22 w B' (some ⟨g', 0, none⟩) m d vs) : g ≠ g' := fun e => by
  subst e
  obtain ⟨c1, h1⟩ := h.heapAt
  obtain ⟨c2, h2⟩ := k.heapAt
  rw [h1] at h2
  injection h2 with h2
  injection h2 with _ h2
  cases h2
theorem OwnV.grown {E : TypeId} {w w' : World} {B n c : Nat} {A : Option Addr} {l : List Value} {row : Option Nat} (h : OwnV E w B A n c l) (hg : w.grownBy w' row) (hne : ∀ g, A = some ⟨g, 0, none⟩ → some g ≠ row) : OwnV E w' B A n c l := by
  refine ⟨h.1, h.2.1, ?_⟩
  rcases h.2.2 with h2 | ⟨g, cap, cur, hv, hbase, hgg, h3⟩
  · exact .inl h2
  · refine .inr ⟨g, cap, cur, hv, hbase, ?_, h3⟩
    injection hv with hA
    rw [hg.block g (h.blk hA) (hne g hA)]; exact hgg
theorem Own.grown {w w' : World} {B n c g : Nat} {l : List F} {row : Option Nat} (h : Own w B (some ⟨g, 0, none⟩) n c l) (hg : w.grownBy w' row) (hne : some g ≠ row) : Own w' B (some ⟨g, 0, none⟩) n c l :=
  Own.ofV (h.toV.grown hg (fun g' e => by injection e with e; injection e with e; rw [← e]; exact hne))

section
variable {w w' : World} {B cg R n : Nat} {A : Option Addr} {h : Nat → Nat × Nat} {f : Nat → Nat → F}
theorem Mat.congr {f' : Nat → Nat → F} (m : Mat w B A cg R n h f) (hf : ∀ i, i < R → ∀ k, k ≤ n → f i k = f' i k) : Mat w B A cg R n h f' :=
  ⟨m.top, fun i hi => by rw [← tab_fun (fun j hj => hf i hi j (by omega))]; exact m.rows i hi, m.inj⟩
theorem Mat.form (m : Mat w B A cg R n h f) (hR : 0 < R) : ∃ g, A = some ⟨g, 0, none⟩ ∧ B ≤ g ∧ g < w.heap.size := m.top.form hR
theorem Mat.less {B' : Nat} (m : Mat w B A cg R n h f) (hB : B' ≤ B) : Mat w B' A cg R n h f := ⟨m.top.less hB, fun i hi => by
  have := m.rows i hi
  exact Own.ofV (this.toV.less hB), m.inj⟩
theorem Mat.drew (m : Mat w B A cg R n h f) : Mat w.drew B A cg R n h f := ⟨m.top, m.rows, m.inj⟩
theorem Mat.drewN (m : Mat w B A cg R n h f) (k : Nat) : Mat (w.drewN k) B A cg R n h f := ⟨m.top, m.rows, m.inj⟩
theorem Mat.alloc (m : Mat w B A cg R n h f) (o : Obj) : Mat (w.alloc o) B A cg R n h f := ⟨m.top.alloc o, fun i hi => (m.rows i hi).alloc o, m.inj⟩
theorem Mat.below (m : Mat w B A cg R n h f) (hb : Below w.heap.size w w') : Mat w' B A cg R n h f := ⟨m.top.below hb, fun i hi => (m.rows i hi).below hb, m.inj⟩
theorem Mat.blk (m : Mat w B A cg R n h f) {i : Nat} (hi : i < R) : B ≤ (h i).1 ∧ (h i).1 < w.heap.size := by
  obtain ⟨g, e, h1, h2⟩ := (m.rows i hi).form (by omega)
  injection e with e; injection e with e
  rw [e]; exact ⟨h1, h2⟩
theorem Mat.grown {row : Option Nat} (m : Mat w B A cg R n h f) (hg : w.grownBy w' row) (h1 : ∀ g, A = some ⟨g, 0, none⟩ → some g ≠ row) (h2 : ∀ i, i < R → some (h i).1 ≠ row) : Mat w' B A cg R n h f :=
  ⟨m.top.grown hg h1, fun i hi => (m.rows i hi).grown hg (h2 i hi), m.inj⟩
end
section
variable {w w' : World} {B g cg R n : Nat} {h : Nat → Nat × Nat} {f : Nat → Nat → F}
theorem range_get {α : Type} (F : Nat → α) {R i : Nat} (hi : i < R) : ((List.range R).map F)[i]? = some (F i) := by
  rw [List.getElem?_map, List.getElem?_range hi]; rfl
theorem Mat.head (m : Mat w B (some ⟨g, 0, none⟩) cg R n h f) {i : Nat} (hi : i < R) : w.cell? ⟨g, i, none⟩ = some (.slice (some ⟨(h i).1, 0, none⟩) (n + 1) (h i).2) := m.top.cell (range_get (rowV n h) hi)
theorem Mat.hfrozen (m : Mat w B (some ⟨g, 0, none⟩) cg R n h f) (i : Nat) : w.frozen? ⟨g, i, none⟩ = false := m.top.frozen i
theorem Mat.cell {A : Option Addr} (m : Mat w B A cg R n h f) {i k : Nat} (hi : i < R) (hk : k ≤ n) : w.cell? ⟨(h i).1, k, none⟩ = some (.int .u16 ((f i k).nat : Int)) := by
  have := (m.rows i hi).cell (j := k) (by omega)
  rwa [tab_getD _ _ _ (by omega)] at this
theorem Mat.frozen {A : Option Addr} (m : Mat w B A cg R n h f) {i : Nat} (hi : i < R) (k : Nat) : w.frozen? ⟨(h i).1, k, none⟩ = false := (m.rows i hi).frozen k
theorem Mat.ne (m : Mat w B (some ⟨g, 0, none⟩) cg R n h f) {i : Nat} (hi : i < R) : (h i).1 ≠ g := own_apart (m.rows i hi) m.top
theorem Mat.store (m : Mat w B (some ⟨g, 0, none⟩) cg R n h f) {i k : Nat} (hi : i < R) (_hk : k ≤ n) (v : F) {z : Int} (hz : z = v.nat) : Mat (w.setCell ⟨(h i).1, k, none⟩ (.int .u16 z)) B (some ⟨g, 0, none⟩) cg R n h (updF f i k v) := by
  refine ⟨m.top.far (fun e => m.ne hi e.symm) _, fun i' hi' => ?_, m.inj⟩
  by_cases e : i' = i
  · subst e
    have := (m.rows i' hi').store k v hz
    refine Eq.mp ?_ this
    congr 1
    refine tab_ext (by rw [List.length_set, tab_length]) fun j hj => ?_
    by_cases ej : k = j
    · subst ej
      rw [getD_set_eq _ (by rw [tab_length]; exact hj)]
      unfold updF; rw [if_pos ⟨rfl, rfl⟩]
    · rw [getD_set_ne _ ej, tab_getD _ _ _ hj]
      unfold updF; rw [if_neg (fun h => ej h.2.symm)]
  · have := (m.rows i' hi').far (p := ⟨(h i).1, k, none⟩) (fun h2 => e (m.inj i' i hi' hi h2)) (.int .u16 z)
    refine Eq.mp ?_ this
    congr 1
    refine tab_fun fun j _ => ?_
    unfold updF; rw [if_neg (fun h => e h.1)]
/-- Two headers exchanged. -/
def swapH (h : Nat → Nat × Nat) (a b : Nat) : Nat → Nat × Nat := fun i => if i = a then h b else if i = b then h a else h i
theorem swapH_here (h : Nat → Nat × Nat) (a c : Nat) : swapH h a c c = h a := by
  by_cases e : c = a
  · subst e; simp [swapH]
  · simp [swapH, e]
theorem range_set_same {α : Type} (F : Nat → α) {R a c : Nat} (hc : c < R) : (((List.range R).map F).set a (F c))[c]? = some (F c) := by
  rw [List.getElem?_set]
  by_cases e : a = c
  · rw [if_pos e, if_pos (by simp; omega)]
  · rw [if_neg e]; exact range_get F hc
def sw (a b i : Nat) : Nat := if i = a then b else if i = b then a else i
theorem swapH_sw (h : Nat → Nat × Nat) (a b i : Nat) : swapH h a b i = h (sw a b i) := by
  unfold swapH sw
  split
  · rfl
  · split <;> rfl
theorem sw_sw (a b i : Nat) : sw a b (sw a b i) = i := by
  unfold sw
  by_cases h1 : i = a
  · rw [if_pos h1]
    by_cases h2 : b = a
    · rw [if_pos h2]; omega
    · rw [if_neg h2, if_pos rfl]; omega
  · rw [if_neg h1]
    by_cases h2 : i = b
    · rw [if_pos h2, if_pos rfl]; omega
    · rw [if_neg h2, if_neg h1, if_neg h2]
theorem sw_inj {a b i j : Nat} (h : sw a b i = sw a b j) : i = j := by rw [← sw_sw a b i, h, sw_sw]
theorem sw_lt {a b i R : Nat} (ha : a < R) (hb : b < R) (hi : i < R) : sw a b i < R := by
  unfold sw
  split
  · exact hb
  · split
    · exact ha
    · exact hi
theorem Mat.swap (m : Mat w B (some ⟨g, 0, none⟩) cg R n h f) {a b : Nat} (ha : a < R) (hb : b < R) :
    Mat ((w.setCell ⟨g, a, none⟩ (.slice (some ⟨(h b).1, 0, none⟩) (n + 1) (h b).2)).setCell ⟨g, b, none⟩ (.slice (some ⟨(h a).1, 0, none⟩) (n + 1) (h a).2)) B (some ⟨g, 0, none⟩) cg R n (swapH h a b) (swapF f a b) := by
  have hsw : ∀ i, i < R → ∃ j, j < R ∧ swapH h a b i = h j ∧ swapF f a b i = f j := fun i hi => by
    by_cases e1 : i = a
    · exact ⟨b, hb, by simp [swapH, e1], by simp [swapF, e1]⟩
    · by_cases e2 : i = b
      · subst e2; exact ⟨a, ha, by simp [swapH, e1], by simp [swapF, e1]⟩
      · exact ⟨i, hi, by simp [swapH, e1, e2], by simp [swapF, e1, e2]⟩
  refine ⟨?_, fun i hi => ?_, fun i j hi hj e => ?_⟩
  · have := (m.top.store a (rowV n h b)).store b (rowV n h a)
    refine Eq.mp ?_ this
    congr 1
    apply List.ext_getElem?
    intro i
    by_cases hi : i < R
    · rw [range_get _ hi, List.getElem?_set, List.getElem?_set]
      simp only [List.length_set, List.length_map, List.length_range]
      by_cases e2 : b = i
      · subst e2
        rw [if_pos rfl, if_pos hb]
        unfold rowV swapH
        by_cases e1 : b = a
        · subst e1; simp
        · simp [e1]
      · rw [if_neg e2]
        by_cases e1 : a = i
        · subst e1
          rw [if_pos rfl, if_pos ha]
          unfold rowV swapH
          simp
        · rw [if_neg e1, range_get _ hi]
          unfold rowV swapH
          rw [if_neg (fun e => e1 e.symm), if_neg (fun e => e2 e.symm)]
    · rw [List.getElem?_eq_none (by simp; omega), List.getElem?_eq_none (by simp; omega)]
  · obtain ⟨j, hj, e1, e2⟩ := hsw i hi
    rw [e1, e2]
    exact ((m.rows j hj).far (p := ⟨g, a, none⟩) (m.ne hj) _).far (p := ⟨g, b, none⟩) (m.ne hj) _
  · rw [swapH_sw, swapH_sw] at e
    exact sw_inj (m.inj _ _ (sw_lt ha hb hi) (sw_lt ha hb hj) e)
end
end Go.Proofs.Ytbahelhhkmonmaa
