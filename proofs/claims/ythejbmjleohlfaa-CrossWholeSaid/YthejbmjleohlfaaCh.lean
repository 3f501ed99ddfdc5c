/- The walk of Recovery: the recovery volumes. -/
import Derived.Test.YthejbmjleohlfaaCg
namespace Go.Proofs.Ythejbmjleohlfaa
set_option linter.unusedVariables false
open Go.RowKit Go.Shelf

attribute [local go_sem] Oper.semAt_some

/-- A byte of a symbol. -/
def byteOf (x : F) (a : Nat) : UInt8 := if a % 2 = 0 then hib x else lob x
/-- The first k words put, of a table F. -/
def tabK (h k : Nat) (F : Nat → Nat → Nat → UInt8) : Nat → Nat → Nat → UInt8 := fun i r a => if r * h + a / 2 < k then F i r a else 0
/-- What Recovery's table holds. -/
def recF (L : List (List (List UInt8))) (n M : Nat) : Nat → Nat → Nat → UInt8 := fun i r a => byteOf ((checkL (wordL L n r (2 * (a / 2))) M).getD i 0) a
/-- The recovery volumes. -/
def recL (D S M : Nat) (L : List (List (List UInt8))) : List (List (List UInt8)) := tabL M D S (recF L L.length M)
theorem tabK_zero (h : Nat) (F : Nat → Nat → Nat → UInt8) : tabK h 0 F = fun _ _ _ => 0 := by
  funext i r a
  exact if_neg (by omega)
theorem putTo_eq (f : Nat → Nat → Nat → UInt8) (row a : Nat) (word : List F) (m : Nat) (i r b : Nat) :
    putTo f row a word m i r b = if i < m ∧ r = row ∧ b = a + 1 then lob (word.getD i 0) else if i < m ∧ r = row ∧ b = a then hib (word.getD i 0) else f i r b := by
  induction m with
  | zero => rw [if_neg (by omega), if_neg (by omega)]; rfl
  | succ m ih =>
    show upd3 (upd3 (putTo f row a word m) m row a _) m row (a + 1) _ i r b = _
    unfold upd3
    rw [ih]
    by_cases hi : i = m
    · subst hi
      by_cases hr : r = row
      · by_cases h1 : b = a + 1
        · simp [hr, h1]
        · by_cases h2 : b = a
          · simp [hr, h2]
          · simp [hr, h1, h2]
      · simp [hr]
    · have e1 : (i < m + 1) = (i < m) := propext (by omega)
      simp [hi, e1]
theorem tabK_pos {h k i r a : Nat} {F : Nat → Nat → Nat → UInt8} (h1 : r * h + a / 2 < k) : tabK h k F i r a = F i r a := if_pos h1
theorem tabK_neg {h k i r a : Nat} {F : Nat → Nat → Nat → UInt8} (h1 : ¬ r * h + a / 2 < k) : tabK h k F i r a = 0 := if_neg h1
/-- One word more. -/
theorem tabK_next {h r p n : Nat} {Y : Nat → Nat → Nat → UInt8} {word : List F} (hw : ∀ i a, i < n → a / 2 = p → Y i r a = byteOf (word.getD i 0) a) (hp : p < h) (i r' b : Nat) (hi : i < n) (hb : b / 2 < h) :
    putTo (tabK h (r * h + p) Y) r (2 * p) word n i r' b = tabK h (r * h + p + 1) Y i r' b := by
  rw [putTo_eq]
  by_cases hr : r' = r
  · subst hr
    by_cases h1 : b = 2 * p + 1
    · rw [if_pos ⟨hi, rfl, h1⟩, tabK_pos (by omega), hw i b hi (by omega), byteOf, if_neg (by omega)]
    · rw [if_neg (fun h => h1 h.2.2)]
      by_cases h2 : b = 2 * p
      · rw [if_pos ⟨hi, rfl, h2⟩, tabK_pos (by omega), hw i b hi (by omega), byteOf, if_pos (by omega)]
      · rw [if_neg (fun h => h2 h.2.2)]
        by_cases h3 : r' * h + b / 2 < r' * h + p
        · rw [tabK_pos h3, tabK_pos (by omega)]
        · rw [tabK_neg h3, tabK_neg (by omega)]
  · rw [if_neg (fun h => hr h.2.1), if_neg (fun h => hr h.2.1)]
    have hne : r' * h + b / 2 ≠ r * h + p := fun e => by
      rcases Nat.lt_trichotomy r' r with h1 | h1 | h1
      · have := Nat.mul_le_mul_right h (show r' + 1 ≤ r by omega)
        rw [Nat.succ_mul] at this
        omega
      · exact hr h1
      · have := Nat.mul_le_mul_right h (show r + 1 ≤ r' by omega)
        rw [Nat.succ_mul] at this
        omega
    by_cases h3 : r' * h + b / 2 < r * h + p
    · rw [tabK_pos h3, tabK_pos (by omega)]
    · rw [tabK_neg h3, tabK_neg (by omega)]
theorem tabK_all {h D : Nat} {F : Nat → Nat → Nat → UInt8} {i r a : Nat} (hr : r < D) (ha : a / 2 < h) : tabK h (D * h) F i r a = F i r a := if_pos (by
  have := Nat.mul_le_mul_right h (show r + 1 ≤ D by omega)
  rw [Nat.succ_mul] at this
  omega)
theorem TabP.congr {w : World} {B g c n D S p : Nat} {fl : Nat → Nat → Bool} {hv : Nat → Nat × Nat} {hr : Nat → Nat → Nat × Nat} {f f' : Nat → Nat → Nat → UInt8} (m : TabP w B g c n D S p fl hv hr f) (h : ∀ i r a, i < p → r < D → a < S → f i r a = f' i r a) : TabP w B g c n D S p fl hv hr f' :=
  ⟨m.top, m.mid, fun i r hi hrr hf => by rw [range_congr (G := fun a => bv (f i r a)) (fun a ha => by rw [h i r a hi hrr ha])]; exact m.row i r hi hrr hf, m.injv, m.injr⟩
theorem tabL_congr {n D S : Nat} {f f' : Nat → Nat → Nat → UInt8} (h : ∀ i r a, i < n → r < D → a < S → f i r a = f' i r a) : tabL n D S f = tabL n D S f' :=
  range_congr fun i hi => range_congr fun r hr => range_congr fun a ha => h i r a hi hr ha
theorem OwnV.otherKind {E : TypeId} {w w' : World} {B n c : Nat} {A : Option Addr} {l : List Value} {row : Option Nat} (h : OwnV E w B A n c l) (hg : w.grownBy w' row) (hr : ∀ r, row = some r → ∃ o : Obj, w.heap[r]? = some o ∧ o.isCells = false) : OwnV E w' B A n c l :=
  h.grown hg fun g hA e => by
    subst hA
    obtain ⟨o, ho, hc⟩ := hr g e.symm
    obtain ⟨cur, hcur⟩ := h.heapAt
    rw [hcur] at ho
    injection ho with ho
    subst ho
    cases hc
theorem TabP.otherKind {w w' : World} {B g c n D S p : Nat} {fl : Nat → Nat → Bool} {hv : Nat → Nat × Nat} {hr : Nat → Nat → Nat × Nat} {f : Nat → Nat → Nat → UInt8} {row : Option Nat} (m : TabP w B g c n D S p fl hv hr f) (hg : w.grownBy w' row) (ho : ∀ r, row = some r → ∃ o : Obj, w.heap[r]? = some o ∧ o.isCells = false) : TabP w' B g c n D S p fl hv hr f :=
  ⟨m.top.otherKind hg ho, fun i hi => (m.mid i hi).otherKind hg ho, fun i r hi hrr h => (m.row i r hi hrr h).otherKind hg ho, m.injv, m.injr⟩
theorem boxed_other {w w' : World} {b : Nat} {t : TypeId} {v : Value} {row : Option Nat} (h : Boxed w b t v) (hg : w.grownBy w' row) (ho : ∀ r, row = some r → ∃ o : Obj, w.heap[r]? = some o ∧ o.isCells = false) : Boxed w' b t v := h.kept hg fun e => by
  obtain ⟨o, h1, hc⟩ := ho b e.symm
  rw [show w.heap[b]? = _ from h] at h1
  injection h1 with h1
  subst h1
  cases hc
theorem ShapeAt.otherKind {w w' : World} {g : Nat} {D R S M : Int} {row : Option Nat} (h : ShapeAt w g D R S M) (hg : w.grownBy w' row) (ho : ∀ r, row = some r → ∃ o : Obj, w.heap[r]? = some o ∧ o.isCells = false) : ShapeAt w' g D R S M :=
  ⟨cell_kept h.d hg ho, cell_kept h.r hg ho, cell_kept h.s hg ho, cell_kept h.m hg ho⟩
theorem Boxes.otherKind {w w' : World} {b : Nat} {D R S M : Int} {row : Option Nat} (h : Boxes w b D R S M) (hg : w.grownBy w' row) (ho : ∀ r, row = some r → ∃ o : Obj, w.heap[r]? = some o ∧ o.isCells = false) : Boxes w' b D R S M :=
  ⟨h.sh.otherKind hg ho, boxed_other h.ob hg ho, boxed_other h.eb hg ho⟩
theorem SeenW.otherKind {w w' : World} {L : List (List (List UInt8))} {n D h : Nat} {pre : List Hand} {x : Hand} {row : Option Nat} (s : SeenW L n D h pre x w) (hg : w.grownBy w' row) (ho : ∀ r, row = some r → ∃ o : Obj, w.heap[r]? = some o ∧ o.isCells = false) : SeenW L n D h pre x w' := by
  obtain ⟨r, p, h1, h2, h3, h4, h5, h6⟩ := s
  exact ⟨r, p, h1, h2, h3, h4, h5, Own.ofV (h6.toV.otherKind hg ho)⟩

set_option maxRecDepth 100000 in
set_option maxHeartbeats 1000000 in
theorem words_any (A : Option Addr) (n c : Nat) (D R S M : Int) (w : World) : Calls Try.prog 21 #[shV D R S M, .slice A n c] w fun e w' => e = .returned (.func (.func 32) #[] #[.pointer (some ⟨w.heap.size, 0, none⟩), .pointer (some ⟨w.heap.size + 1, 0, none⟩)]) ∧ w' = (w.alloc (shO D R S M)).alloc (.cells #[.slice A n c] 23) := by
  unfold shV shO
  go_enter Try.func21, Try.ntmps21
  go_wp2_with fail
  go_ret
  exact ⟨rfl, rfl⟩
end Go.Proofs.Ythejbmjleohlfaa
