/- Slices of numbers of the field: what it says that one reads as a list. -/
import Derived.Test.YthejbmjleohlfaaGl
import Derived.WalkKit
import Derived.WalkSmall
import Derived.OpenShut
namespace Go.Proofs.Ythejbmjleohlfaa
open Go.RowKit

/-- A slice from this address on reads as this list; it lies below block B. -/
def Rd (w : World) (B : Nat) (A : Option Addr) (l : List F) : Prop :=
  0 < l.length → ∃ b off, A = some ⟨b, off, none⟩ ∧ b < B ∧ ∀ j, j < l.length → w.cell? ⟨b, off + j, none⟩ = some (.int .u16 (l.getD j 0).nat)

theorem Rd.nil {w : World} {B : Nat} {A : Option Addr} : Rd w B A [] := fun h => absurd h (by simp)
theorem Rd.below {w w' : World} {B : Nat} {A : Option Addr} {l : List F} (h : Rd w B A l) (hb : Below B w w') : Rd w' B A l := fun h0 => by
  obtain ⟨b, off, hA, hlt, hc⟩ := h h0
  exact ⟨b, off, hA, hlt, fun j hj => (hb.cell (p := ⟨b, off + j, none⟩) hlt).trans (hc j hj)⟩
theorem Rd.drew {w : World} {B : Nat} {A : Option Addr} {l : List F} (h : Rd w B A l) : Rd w.drew B A l := h
theorem Rd.drewN {w : World} {B : Nat} {A : Option Addr} {l : List F} (h : Rd w B A l) (k : Nat) : Rd (w.drewN k) B A l := h
theorem Rd.more {w : World} {B B' : Nat} {A : Option Addr} {l : List F} (h : Rd w B A l) (hB : B ≤ B') : Rd w B' A l := fun h0 => by
  obtain ⟨b, off, hA, hlt, hc⟩ := h h0
  exact ⟨b, off, hA, by omega, hc⟩

theorem F.of_wf {z : Int} (h : (Lit.int .u16 z).wf = true) : ∃ a : F, z = a.nat := by
  have hb := Go.bounds_u16 h
  exact ⟨F.ofNat z.toNat, by rw [F.nat_ofNat (by omega)]; omega⟩

/-- The numbers of the field that whole numbers stand for. -/
def toF (zs : List Int) : List F := zs.map fun z => F.ofNat z.toNat
theorem toF_length (zs : List Int) : (toF zs).length = zs.length := by simp [toF]

/-- A row of a slice of 16 bit numbers, as a list. -/
theorem rd_of_row {w : World} {a : Option Addr} {len cap : Nat} {zs : List Int}
    (h : (a = none ∧ len = 0 ∧ cap = 0 ∧ zs = []) ∨ ∃ x, a = some x ∧ len ≤ cap ∧ cap ≤ maxLen ∧ zs.length = cap ∧ (∀ i, i < zs.length → w.cell? (x.add i) = some (.int .u16 (zs.getD i 0))) ∧ ∀ n ∈ zs, (Lit.int .u16 n).wf = true) :
    ∃ l : List F, l.length = len ∧ Rd w w.heap.size a l ∧ len ≤ cap ∧ cap ≤ maxLen := by
  rcases h with ⟨rfl, rfl, rfl, rfl⟩ | ⟨x, rfl, hl, hm, hz, hcx, hw⟩
  · exact ⟨[], rfl, Rd.nil, Nat.le_refl _, by unfold maxLen; omega⟩
  · refine ⟨toF (zs.take len), by simp [toF]; omega, fun h0 => ?_, hl, hm⟩
    have hlen : (toF (zs.take len)).length = len := by simp [toF]; omega
    obtain ⟨b, off, rfl, hc⟩ := Go.ints_at hcx (by omega)
    have hcell := hc 0 (by omega)
    have hb : b < w.heap.size := by
      rcases Nat.lt_or_ge b w.heap.size with h | h
      · exact h
      · simp [World.cell?, Array.getElem?_eq_none h] at hcell
    refine ⟨b, off, rfl, hb, fun j hj => ?_⟩
    rw [hlen] at hj
    rw [hc j (by omega)]
    have hj2 : j < zs.length := by omega
    have e : (toF (zs.take len)).getD j 0 = F.ofNat (zs.getD j 0).toNat := by
      simp [toF, List.getD, hj, List.getElem?_eq_getElem hj2]
    rw [e]
    have hw2 := hw (zs.getD j 0) (by rw [List.getD, List.getElem?_eq_getElem hj2]; exact List.getElem_mem hj2)
    have hbd := Go.bounds_u16 hw2
    rw [F.nat_ofNat (by omega)]
    congr 2
    omega
end Go.Proofs.Ythejbmjleohlfaa
