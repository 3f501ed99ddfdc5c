/- What comes in: a shape, and volumes. -/
import Derived.Test.YthejbmjleohlfaaCm
import Derived.Lib.SmallJoins
import Derived.Deep.Strs
import Derived.OpenShut
namespace Go.Proofs.Ythejbmjleohlfaa
set_option linter.unusedVariables false
open Go.RowKit Go.Deep

theorem vals_at {w : World} {a : Addr} {f : Nat → Value} {n : Nat} (h : ∀ i, i < n → w.cell? (a.add i) = some (f i)) (hp : 0 < n) : ∃ b off, a = ⟨b, off, none⟩ ∧ b < w.heap.size ∧ ∀ j, j < n → w.cell? ⟨b, off + j, none⟩ = some (f j) := by
  obtain ⟨b, off, spot⟩ := a
  have hspot : spot = none := by simpa [Addr.add] using World.cell?_spot (h 0 hp)
  subst hspot
  have hall : ∀ j, j < n → w.cell? ⟨b, off + j, none⟩ = some (f j) := fun j hj => by rw [← Go.WideShapes.add_plain]; exact h j hj
  refine ⟨b, off, rfl, ?_, hall⟩
  have hc := hall 0 hp
  rcases Nat.lt_or_ge b w.heap.size with h | h
  · exact h
  · simp [World.cell?, Array.getElem?_eq_none h] at hc
theorem rdV_at {w : World} {a : Addr} {vs : List Value} (h : ∀ i v, vs[i]? = some v → w.cell? (a.add i) = some v) : RdV w w.heap.size (some a) vs := fun hp => by
  obtain ⟨b, off, rfl, hb, hc⟩ := vals_at (f := fun i => vs.getD i undef) (n := vs.length) (fun i hi => h i _ (by rw [List.getD, List.getElem?_eq_getElem hi]; rfl)) hp
  refine ⟨b, off, rfl, hb, fun j v hv => ?_⟩
  have hj : j < vs.length := by
    rcases Nat.lt_or_ge j vs.length with h | h
    · exact h
    · rw [List.getElem?_eq_none h] at hv; cases hv
  rw [hc j hj, List.getD, hv]
  rfl
section
variable {H : Type} {enc : TypeId × Value → H} {w : World} {base : Nat} {spare : Nat → Bool} {held : Bool}
/-- A row of texts that came in. -/
theorem strs_in {fuel : Nat} {v : Value} {x : DataW H × List MemPlace} (h : DataW.trod enc Try.prog w base spare held fuel 24 [v] = some x) :
    ∃ y : (Option Addr × Nat) × List (List UInt8), v = .slice y.1.1 y.2.length y.1.2 ∧ RdV w w.heap.size y.1.1 (y.2.map sv) ∧ y.2.length ≤ maxLen := by
  rcases open_strs Try.underlying24 Try.underlying9 (by kernel_rfl) h with ⟨hcs, _⟩ | ⟨a, len, cap, m, Sx, hcs, _, hl, hm, hmm, _, hx⟩
  · refine ⟨((none, 0), []), by simpa using hcs, RdV.nil, Nat.zero_le _⟩
  · have hlm : len ≤ m := by rw [hmm]; split <;> omega
    have e : ((List.range len).map fun i => (Sx i).data.toList).length = len := by simp
    refine ⟨((some a, cap), (List.range len).map fun i => (Sx i).data.toList), by simpa using hcs, rdV_at fun i u hu => ?_, by rw [e]; omega⟩
    rw [List.map_map, List.getElem?_map] at hu
    rcases Nat.lt_or_ge i len with hi | hi
    · rw [List.getElem?_range hi] at hu
      simp only [Option.map_some, Option.some.injEq, Function.comp] at hu
      rw [(hx i (by omega)).1, ← hu]
      rfl
    · rw [List.getElem?_eq_none (by simpa using hi)] at hu
      cases hu
/-- Volumes that came in. -/
theorem vols_in {fuel : Nat} {A : Option Addr} {n c : Nat} {x : DataW H × List MemPlace} (h : DataW.trod enc Try.prog w base spare held fuel 23 [.slice A n c] = some x) :
    ∃ (H' : Nat → Option Addr × Nat) (L : List (List (List UInt8))), L.length = n ∧ RdSS w w.heap.size A H' L ∧ n ≤ 9223372036854775807 := by
  rcases open_slice1 Try.underlying23 (by kernel_rfl) h with ⟨hcs, _⟩ | ⟨a, len, cap, m, k, V, D, Pl, hcs, _, hl, hm, hmm, _, hx⟩
  · simp at hcs
    obtain ⟨rfl, rfl, rfl⟩ := hcs
    exact ⟨fun _ => (none, 0), [], rfl, ⟨RdV.nil, fun i hi => absurd hi (by simp), fun i hi => absurd hi (by simp)⟩, by omega⟩
  · simp at hcs
    obtain ⟨rfl, rfl, rfl⟩ := hcs
    have hlm : n ≤ m := by rw [hmm]; split <;> omega
    obtain ⟨y, hy⟩ := choose_lt (n := n) (p := fun i (y : (Option Addr × Nat) × List (List UInt8)) => V i = .slice y.1.1 y.2.length y.1.2 ∧ RdV w w.heap.size y.1.1 (y.2.map sv) ∧ y.2.length ≤ maxLen) (fun i hi => strs_in (hx i (by omega)).2)
    have hlen : ((List.range n).map fun i => (y i).2).length = n := by simp
    have hget : ∀ i, i < n → ((List.range n).map fun i => (y i).2).getD i [] = (y i).2 := fun i hi => by
      rw [List.getD, List.getElem?_map, List.getElem?_range hi]; rfl
    refine ⟨fun i => (y i).1, (List.range n).map fun i => (y i).2, hlen, ⟨rdV_at fun i u hu => ?_, fun i hi => ?_, fun i hi => ?_⟩, by unfold maxLen at hm; omega⟩
    · rcases Nat.lt_or_ge i n with hi | hi
      · rw [hdV_get _ (by rw [hlen]; exact hi), hget i hi] at hu
        injection hu with hu
        rw [(hx i (by omega)).1, (hy i hi).1, hu]
      · rw [List.getElem?_eq_none (by rw [hdV_length, hlen]; exact hi)] at hu
        cases hu
    · rw [hlen] at hi
      rw [hget i hi]
      exact (hy i hi).2.1
    · rw [hlen] at hi
      rw [hget i hi]
      exact (hy i hi).2.2

set_option maxRecDepth 100000 in
theorem shape_in {r : Reach} {b0 : Nat} {v : Value} {d : DataW H} {p : List MemPlace} (hv : Value.okWide Try.prog w r b0 31 v) (h : DataW.Trod enc Try.prog w base spare held 31 v d p) : ∃ D R S M : Int, v = shV D R S M := by
  obtain ⟨v0, v1, v2, v3, y0, y1, y2, y3, n, rfl, _, _, h0, h1, h2, h3⟩ := Go.Joins.open_agg4 Try.underlying31 (by kernel_rfl) (by kernel_rfl) hv h
  obtain ⟨a0, e0, _⟩ := DataW.trod_int Try.underlying3 h0
  obtain ⟨a1, e1, _⟩ := DataW.trod_int Try.underlying3 h1
  obtain ⟨a2, e2, _⟩ := DataW.trod_int Try.underlying3 h2
  obtain ⟨a3, e3, _⟩ := DataW.trod_int Try.underlying3 h3
  simp only [List.cons.injEq, and_true] at e0 e1 e2 e3
  subst e0 e1 e2 e3
  exact ⟨a0, a1, a2, a3, rfl⟩
/-- Whole numbers that came in. -/
theorem ints_in {fuel : Nat} {A : Option Addr} {n c : Nat} {x : DataW H × List MemPlace} (h : DataW.trod enc Try.prog w base spare held fuel 42 [.slice A n c] = some x) :
    ∃ zs : List Int, zs.length = n ∧ RdI w w.heap.size A zs := by
  rcases open_slice1 Try.underlying42 (by kernel_rfl) h with ⟨hcs, _⟩ | ⟨a, len, cap, m, k, V, D, Pl, hcs, _, hl, hm, hmm, _, hx⟩
  · simp at hcs
    obtain ⟨rfl, rfl, rfl⟩ := hcs
    exact ⟨[], rfl, RdI.nil⟩
  · simp at hcs
    obtain ⟨rfl, rfl, rfl⟩ := hcs
    have hlm : n ≤ m := by rw [hmm]; split <;> omega
    obtain ⟨y, hy⟩ := choose_lt (n := n) (p := fun i (y : Int) => V i = .int .i64 y) (fun i hi => by
      obtain ⟨z, e, _⟩ := DataW.trod_int Try.underlying3 (hx i (by omega)).2
      simp only [List.cons.injEq, and_true] at e
      exact ⟨z, e⟩)
    refine ⟨(List.range n).map y, by simp, fun hp => ?_⟩
    have hp2 : 0 < n := by simpa using hp
    obtain ⟨b, off, rfl, hb, hc⟩ := vals_at (f := V) (n := n) (fun i hi => (hx i (by omega)).1) hp2
    refine ⟨b, off, rfl, hb, fun j hj => ?_⟩
    have hj : j < n := by simpa using hj
    rw [hc j hj, hy j hj, List.getElem?_map, List.getElem?_range hj]
    rfl
end
end Go.Proofs.Ythejbmjleohlfaa
