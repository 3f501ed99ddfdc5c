/- A table of bytes in memory: volumes of rows, each row of its own; the plain laws. -/
import Derived.Test.YthejbmjleohlfaaCb
namespace Go.Proofs.Ythejbmjleohlfaa
set_option linter.unusedVariables false
open Go.RowKit

theorem tab_el : El 51 69 (.slice none 0 0) 24 := ⟨Try.underlying51, by kernel_rfl, by decide, rfl⟩
theorem vol_el : El 69 26 (.slice none 0 0) 24 := ⟨Try.underlying69, by kernel_rfl, by decide, rfl⟩
theorem byte_el : El 26 5 (.int .u8 0) 1 := ⟨Try.underlying26, by kernel_rfl, by decide, rfl⟩
/-- A byte as a value. -/
def bv (x : UInt8) : Value := .int .u8 (x.toNat : Int)
def nilV : Value := .slice none 0 0
/-- A volume's header; a row's header. -/
def volV (D : Nat) (hv : Nat → Nat × Nat) (i : Nat) : Value := .slice (some ⟨(hv i).1, 0, none⟩) D (hv i).2
def rowV (S : Nat) (hr : Nat → Nat → Nat × Nat) (i r : Nat) : Value := .slice (some ⟨(hr i r).1, 0, none⟩) S (hr i r).2
theorem OwnV.heapAt {E : TypeId} {w : World} {B n c g : Nat} {l : List Value} (h : OwnV E w B (some ⟨g, 0, none⟩) n c l) : ∃ cur, w.heap[g]? = some (.cells cur E (0, 0)) := by
  rcases h.2.2 with ⟨hv, _⟩ | ⟨g', cap, cur, hv, _, hg, _⟩
  · cases hv
  · injection hv with hv; injection hv with hv; injection hv with hv; subst hv
    exact ⟨cur, hg⟩
theorem ownV_apart {E E' : TypeId} {w : World} {B B' n m c d g g' : Nat} {l vs : List Value} (hE : E ≠ E') (h : OwnV E w B (some ⟨g, 0, none⟩) n c l) (k : OwnV E' w B' (some ⟨g', 0, none⟩) m d vs) : g ≠ g' := fun e => by
  subst e
  obtain ⟨c1, h1⟩ := h.heapAt
  obtain ⟨c2, h2⟩ := k.heapAt
  rw [h1] at h2
  injection h2 with h2
  injection h2 with _ h2
  exact hE h2
theorem OwnV.grown {E : TypeId} {w w' : World} {B n c : Nat} {A : Option Addr} {l : List Value} {row : Option Nat} (h : OwnV E w B A n c l) (hg : w.grownBy w' row) (hne : ∀ g, A = some ⟨g, 0, none⟩ → some g ≠ row) : OwnV E w' B A n c l := by
  refine ⟨h.1, h.2.1, ?_⟩
  rcases h.2.2 with h2 | ⟨g, cap, cur, hv, hbase, hgg, h3⟩
  · exact .inl h2
  · refine .inr ⟨g, cap, cur, hv, hbase, ?_, h3⟩
    injection hv with hA
    rw [hg.block g (h.blk hA) (hne g hA)]; exact hgg
theorem range_get {α : Type} (F : Nat → α) {R i : Nat} (hi : i < R) : ((List.range R).map F)[i]? = some (F i) := by
  rw [List.getElem?_map, List.getElem?_range hi]; rfl
theorem range_set {α : Type} (F : Nat → α) {R : Nat} (i : Nat) (v : α) : ((List.range R).map F).set i v = (List.range R).map (fun j => if j = i then v else F j) := by
  apply List.ext_getElem?
  intro j
  rw [List.getElem?_set]
  by_cases hj : j < R
  · rw [range_get _ hj]
    by_cases e : i = j
    · subst e; simp [hj]
    · rw [if_neg e, range_get _ hj, if_neg (fun h => e h.symm)]
  · rw [List.getElem?_eq_none (by simp; omega), List.getElem?_eq_none (l := (List.range R).map _) (by simp; omega)]
    split <;> simp <;> omega
theorem replicate_range {α : Type} (v : α) (R : Nat) : List.replicate R v = (List.range R).map (fun _ => v) := by
  apply List.ext_getElem?
  intro j
  by_cases hj : j < R
  · rw [range_get _ hj, List.getElem?_replicate, if_pos hj]
  · rw [List.getElem?_eq_none (by simp; omega), List.getElem?_eq_none (by simp; omega)]
theorem range_congr {α : Type} {F G : Nat → α} {R : Nat} (h : ∀ j, j < R → F j = G j) : (List.range R).map F = (List.range R).map G := List.map_congr_left fun j hj => h j (List.mem_range.1 hj)
def upd1 {α : Type} (f : Nat → α) (i : Nat) (v : α) : Nat → α := fun j => if j = i then v else f j
def upd2 {α : Type} (f : Nat → Nat → α) (i r : Nat) (v : α) : Nat → Nat → α := fun j s => if j = i ∧ s = r then v else f j s
def upd3 (f : Nat → Nat → Nat → UInt8) (i r a : Nat) (v : UInt8) : Nat → Nat → Nat → UInt8 := fun j s b => if j = i ∧ s = r ∧ b = a then v else f j s b

/-- A table in the making: the first p of n volumes are there, and of them the rows that fl tells. -/
structure TabP (w : World) (B g c n D S p : Nat) (fl : Nat → Nat → Bool) (hv : Nat → Nat × Nat) (hr : Nat → Nat → Nat × Nat) (f : Nat → Nat → Nat → UInt8) : Prop where
  top : OwnV 69 w B (some ⟨g, 0, none⟩) n c ((List.range n).map fun i => if i < p then volV D hv i else nilV)
  mid : ∀ i, i < p → OwnV 26 w B (some ⟨(hv i).1, 0, none⟩) D (hv i).2 ((List.range D).map fun r => if fl i r = true then rowV S hr i r else nilV)
  row : ∀ i r, i < p → r < D → fl i r = true → OwnV 5 w B (some ⟨(hr i r).1, 0, none⟩) S (hr i r).2 ((List.range S).map fun a => bv (f i r a))
  injv : ∀ i j, i < p → j < p → (hv i).1 = (hv j).1 → i = j
  injr : ∀ i r j s, i < p → r < D → fl i r = true → j < p → s < D → fl j s = true → (hr i r).1 = (hr j s).1 → i = j ∧ r = s
section
variable {w w' : World} {B g c n D S p : Nat} {fl : Nat → Nat → Bool} {hv : Nat → Nat × Nat} {hr : Nat → Nat → Nat × Nat} {f : Nat → Nat → Nat → UInt8}
theorem OwnV.blkS {E : TypeId} {w : World} {B n c g : Nat} {l : List Value} (h : OwnV E w B (some ⟨g, 0, none⟩) n c l) : B ≤ g ∧ g < w.heap.size := by
  refine ⟨?_, h.blk rfl⟩
  rcases h.2.2 with ⟨hv, _⟩ | ⟨g', cap, cur, hv, hb, _⟩
  · cases hv
  · injection hv with hv; injection hv with hv; injection hv with hv; subst hv
    exact hb
theorem TabP.below (m : TabP w B g c n D S p fl hv hr f) (hb : Below w.heap.size w w') : TabP w' B g c n D S p fl hv hr f :=
  ⟨m.top.below hb, fun i hi => (m.mid i hi).below hb, fun i r hi hrr h => (m.row i r hi hrr h).below hb, m.injv, m.injr⟩
theorem TabP.less {B' : Nat} (m : TabP w B g c n D S p fl hv hr f) (hB : B' ≤ B) : TabP w B' g c n D S p fl hv hr f :=
  ⟨m.top.less hB, fun i hi => (m.mid i hi).less hB, fun i r hi hrr h => (m.row i r hi hrr h).less hB, m.injv, m.injr⟩
theorem TabP.drew (m : TabP w B g c n D S p fl hv hr f) : TabP w.drew B g c n D S p fl hv hr f := ⟨m.top, m.mid, m.row, m.injv, m.injr⟩
theorem TabP.drewN (m : TabP w B g c n D S p fl hv hr f) (k : Nat) : TabP (w.drewN k) B g c n D S p fl hv hr f := ⟨m.top, m.mid, m.row, m.injv, m.injr⟩
theorem TabP.grown (m : TabP w B g c n D S p fl hv hr f) (hg : w.grownBy w' none) : TabP w' B g c n D S p fl hv hr f :=
  ⟨m.top.grown hg (fun _ _ => by simp), fun i hi => (m.mid i hi).grown hg (fun _ _ => by simp), fun i r hi hrr h => (m.row i r hi hrr h).grown hg (fun _ _ => by simp), m.injv, m.injr⟩
theorem TabP.head (m : TabP w B g c n D S p fl hv hr f) {i : Nat} (hi : i < n) (hp : i < p) : w.cell? ⟨g, i, none⟩ = some (.slice (some ⟨(hv i).1, 0, none⟩) D (hv i).2) := by
  have := m.top.cell (range_get _ hi)
  rwa [if_pos hp] at this
theorem TabP.hrow (m : TabP w B g c n D S p fl hv hr f) {i r : Nat} (hp : i < p) (hrr : r < D) (h : fl i r = true) : w.cell? ⟨(hv i).1, r, none⟩ = some (.slice (some ⟨(hr i r).1, 0, none⟩) S (hr i r).2) := by
  have := (m.mid i hp).cell (range_get _ hrr)
  rwa [if_pos h] at this
theorem TabP.cell (m : TabP w B g c n D S p fl hv hr f) {i r a : Nat} (hp : i < p) (hrr : r < D) (h : fl i r = true) (ha : a < S) : w.cell? ⟨(hr i r).1, a, none⟩ = some (.int .u8 ((f i r a).toNat : Int)) :=
  (m.row i r hp hrr h).cell (range_get _ ha)
theorem TabP.start (h : OwnV 69 w B (some ⟨g, 0, none⟩) n c (List.replicate n (.slice none 0 0))) : TabP w B g c n D S 0 (fun _ _ => false) hv hr f :=
  ⟨by rw [range_congr (G := fun _ => nilV) (fun j _ => if_neg (by omega)), ← replicate_range]; exact h, fun i hi => absurd hi (by omega), fun i r hi => absurd hi (by omega), fun i j hi => absurd hi (by omega), fun i r j s hi => absurd hi (by omega)⟩
/-- A volume more. -/
theorem TabP.vol {G c' : Nat} (m : TabP w B g c n D S p fl hv hr f) (hfl : ∀ r, fl p r = false) (hg : w.grownBy w' none) (hG : w.heap.size ≤ G) (hB : B ≤ w.heap.size) (hnew : OwnV 26 w' w.heap.size (some ⟨G, 0, none⟩) D c' (List.replicate D (.slice none 0 0))) :
    TabP (w'.setCell ⟨g, p, none⟩ (.slice (some ⟨G, 0, none⟩) D c')) B g c n D S (p + 1) fl (upd1 hv p (G, c')) hr f := by
  have m' := m.grown hg
  have hgG : g ≠ G := by have := m.top.blkS; omega
  have hmid : ∀ i, i < p → (hv i).1 ≠ G := fun i hi => by have := (m.mid i hi).blkS; omega
  refine ⟨?_, fun i hi => ?_, fun i r hi hrr h => ?_, fun i j hi hj e => ?_, fun i r j s hi hrr h hj hs h2 e => ?_⟩
  · have := m'.top.store p (.slice (some ⟨G, 0, none⟩) D c')
    rw [range_set] at this
    rw [range_congr (G := fun j => if j = p then .slice (some ⟨G, 0, none⟩) D c' else if j < p then volV D hv j else nilV) (fun j _ => ?_)]
    · exact this
    · by_cases e : j = p
      · subst e
        rw [if_pos (by omega), if_pos rfl]
        unfold volV upd1
        rw [if_pos rfl]
      · rw [if_neg e]
        by_cases h : j < p
        · rw [if_pos (by omega), if_pos h]
          unfold volV upd1
          rw [if_neg e]
        · rw [if_neg (by omega), if_neg h]
  · by_cases e : i = p
    · subst e
      have e1 : upd1 hv i (G, c') i = (G, c') := if_pos rfl
      rw [e1, range_congr (G := fun _ => nilV) (fun r _ => by rw [hfl r]; rfl), ← replicate_range]
      exact (hnew.less hB).far (fun e => hgG e.symm) _
    · have e1 : upd1 hv p (G, c') i = hv i := if_neg e
      rw [e1]
      exact (m'.mid i (by omega)).far (fun e2 => ownV_apart (by decide) (m'.mid i (by omega)) m'.top e2) _
  · have hi2 : i < p := by
      rcases Nat.lt_or_ge i p with h3 | h3
      · exact h3
      · obtain rfl : i = p := by omega
        rw [hfl r] at h; cases h
    exact (m'.row i r hi2 hrr h).far (fun e2 => ownV_apart (by decide) (m'.row i r hi2 hrr h) m'.top e2) _
  · unfold upd1 at e
    by_cases e1 : i = p
    · by_cases e2 : j = p
      · omega
      · rw [if_pos e1, if_neg e2] at e
        exact absurd e.symm (hmid j (by omega))
    · by_cases e2 : j = p
      · rw [if_neg e1, if_pos e2] at e
        exact absurd e (hmid i (by omega))
      · rw [if_neg e1, if_neg e2] at e
        exact m.injv i j (by omega) (by omega) e
  · have h3 : ∀ k t, k < p + 1 → fl k t = true → k < p := fun k t hk hf => by
      rcases Nat.lt_or_ge k p with h4 | h4
      · exact h4
      · obtain rfl : k = p := by omega
        rw [hfl t] at hf; cases hf
    exact m.injr i r j s (h3 i r hi h) hrr h (h3 j s hj h2) hs h2 e
/-- A row more. -/
theorem TabP.addRow {i r G c' : Nat} {fl' : Nat → Nat → Bool} (m : TabP w B g c n D S p fl hv hr f) (hi : i < p) (hrD : r < D) (hno : fl i r = false) (hfl : ∀ j s, fl' j s = true ↔ fl j s = true ∨ (j = i ∧ s = r)) (hg : w.grownBy w' none) (hG : w.heap.size ≤ G) (hB : B ≤ w.heap.size)
    (hnew : OwnV 5 w' w.heap.size (some ⟨G, 0, none⟩) S c' (List.replicate S (.int .u8 0))) (hf : ∀ a, f i r a = 0) :
    TabP (w'.setCell ⟨(hv i).1, r, none⟩ (.slice (some ⟨G, 0, none⟩) S c')) B g c n D S p fl' hv (upd2 hr i r (G, c')) f := by
  have m' := m.grown hg
  have hrow : ∀ j s, j < p → s < D → fl j s = true → (hr j s).1 ≠ G := fun j s hj hs h => by have := (m.row j s hj hs h).blkS; omega
  have hmG : (hv i).1 ≠ G := by have := (m.mid i hi).blkS; omega
  have hu : upd2 hr i r (G, c') i r = (G, c') := if_pos ⟨rfl, rfl⟩
  have hu2 : ∀ j s, ¬ (j = i ∧ s = r) → upd2 hr i r (G, c') j s = hr j s := fun j s h => if_neg h
  have hfl2 : ∀ j s, ¬ (j = i ∧ s = r) → fl' j s = fl j s := fun j s h => by
    rw [Bool.eq_iff_iff, hfl j s]
    exact ⟨fun h2 => h2.elim id (fun h3 => absurd h3 h), Or.inl⟩
  refine ⟨m'.top.far (fun e => ownV_apart (by decide) (m'.mid i hi) m'.top e.symm) _, fun j hj => ?_, fun j s hj hs h => ?_, m.injv, fun j s k t hj hs h hk ht h2 e => ?_⟩
  · by_cases e : j = i
    · subst e
      have := (m'.mid j hj).store r (.slice (some ⟨G, 0, none⟩) S c')
      rw [range_set] at this
      rw [range_congr (G := fun s => if s = r then .slice (some ⟨G, 0, none⟩) S c' else if fl j s = true then rowV S hr j s else nilV) (fun s _ => ?_)]
      · exact this
      · by_cases e2 : s = r
        · subst e2
          rw [if_pos ((hfl j s).2 (.inr ⟨rfl, rfl⟩)), if_pos rfl]
          unfold rowV
          rw [hu]
        · rw [if_neg e2, hfl2 j s (fun h => e2 h.2)]
          by_cases h : fl j s = true
          · rw [if_pos h, if_pos h]
            unfold rowV
            rw [hu2 j s (fun h => e2 h.2)]
          · rw [if_neg h, if_neg h]
    · rw [range_congr (G := fun s => if fl j s = true then rowV S hr j s else nilV) (fun s _ => by
        rw [hfl2 j s (fun h => e h.1)]
        unfold rowV
        rw [hu2 j s (fun h => e h.1)])]
      exact (m'.mid j hj).far (fun e2 => e (m.injv j i hj hi e2)) _
  · by_cases e : j = i ∧ s = r
    · obtain ⟨rfl, rfl⟩ := e
      rw [hu, range_congr (G := fun _ => .int .u8 0) (fun a _ => by unfold bv; rw [hf a]; rfl), ← replicate_range]
      exact (hnew.less hB).far (fun e => hmG e.symm) _
    · have h' : fl j s = true := by rw [← hfl2 j s e]; exact h
      rw [hu2 j s e]
      exact (m'.row j s hj hs h').far (fun e2 => ownV_apart (by decide) (m'.row j s hj hs h') (m'.mid i hi) e2) _
  · by_cases e1 : j = i ∧ s = r
    · by_cases e2 : k = i ∧ t = r
      · omega
      · have h' : fl k t = true := by rw [← hfl2 k t e2]; exact h2
        obtain ⟨rfl, rfl⟩ := e1
        rw [hu, hu2 k t e2] at e
        exact absurd e.symm (hrow k t hk ht h')
    · have h' : fl j s = true := by rw [← hfl2 j s e1]; exact h
      by_cases e2 : k = i ∧ t = r
      · obtain ⟨rfl, rfl⟩ := e2
        rw [hu2 j s e1, hu] at e
        exact absurd e (hrow j s hj hs h')
      · have h2' : fl k t = true := by rw [← hfl2 k t e2]; exact h2
        rw [hu2 j s e1, hu2 k t e2] at e
        exact m.injr j s k t hj hs h' hk ht h2' e
/-- A byte stored. -/
theorem TabP.store {i r a : Nat} (m : TabP w B g c n D S p fl hv hr f) (hi : i < p) (hrD : r < D) (h : fl i r = true) (v : UInt8) {z : Int} (hz : z = v.toNat) : TabP (w.setCell ⟨(hr i r).1, a, none⟩ (.int .u8 z)) B g c n D S p fl hv hr (upd3 f i r a v) := by
  subst hz
  refine ⟨m.top.far (fun e => ownV_apart (by decide) (m.row i r hi hrD h) m.top e.symm) _, fun j hj => (m.mid j hj).far (fun e => ownV_apart (by decide) (m.row i r hi hrD h) (m.mid j hj) e.symm) _, fun j s hj hs h2 => ?_, m.injv, m.injr⟩
  by_cases e : j = i ∧ s = r
  · obtain ⟨rfl, rfl⟩ := e
    have := (m.row j s hj hs h2).store a (bv v)
    rw [range_set] at this
    rw [range_congr (G := fun b => if b = a then bv v else bv (f j s b)) (fun b _ => by
      unfold upd3
      by_cases e : b = a
      · rw [if_pos e, if_pos ⟨rfl, rfl, e⟩]
      · rw [if_neg e, if_neg (fun h => e h.2.2)])]
    exact this
  · rw [range_congr (G := fun b => bv (f j s b)) (fun b _ => by unfold upd3; rw [if_neg (fun h => e ⟨h.1, h.2.1⟩)])]
    exact (m.row j s hj hs h2).far (fun e2 => e (m.injr j s i r hj hs h2 hi hrD h e2)) _
end
end Go.Proofs.Ythejbmjleohlfaa
