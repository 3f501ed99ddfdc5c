/- Volumes that came in: the walks of what asks whether one of them is not fine. -/
import Derived.Test.YthejbmjleohlfaaCa
namespace Go.Proofs.Ythejbmjleohlfaa
set_option linter.unusedVariables false
open Go.RowKit

/-- The slices of volumes. -/
def hdV (H : Nat → Option Addr × Nat) (L : List (List (List UInt8))) : List Value := (List.range L.length).map fun i => .slice (H i).1 (L.getD i []).length (H i).2
/-- Volumes: slices of slices of texts. -/
structure RdSS (w : World) (B : Nat) (A : Option Addr) (H : Nat → Option Addr × Nat) (L : List (List (List UInt8))) : Prop where
  top : RdV w B A (hdV H L)
  rows : ∀ i, i < L.length → RdV w B (H i).1 ((L.getD i []).map sv)
  lens : ∀ i, i < L.length → (L.getD i []).length ≤ maxLen
theorem RdSS.below {w w' : World} {B : Nat} {A : Option Addr} {H : Nat → Option Addr × Nat} {L : List (List (List UInt8))} (h : RdSS w B A H L) (hb : Below B w w') : RdSS w' B A H L := ⟨h.top.below hb, fun i hi => (h.rows i hi).below hb, h.lens⟩
theorem RdSS.more {w : World} {B B' : Nat} {A : Option Addr} {H : Nat → Option Addr × Nat} {L : List (List (List UInt8))} (h : RdSS w B A H L) (hB : B ≤ B') : RdSS w B' A H L := ⟨h.top.more hB, fun i hi => (h.rows i hi).more hB, h.lens⟩
theorem hdV_length (H : Nat → Option Addr × Nat) (L : List (List (List UInt8))) : (hdV H L).length = L.length := by simp [hdV]
theorem hdV_get (H : Nat → Option Addr × Nat) {L : List (List (List UInt8))} {i : Nat} (h : i < L.length) : (hdV H L)[i]? = some (.slice (H i).1 (L.getD i []).length (H i).2) := by
  unfold hdV
  rw [List.getElem?_map, List.getElem?_range h]
  rfl
theorem RdSS.cell {w : World} {B : Nat} {A : Option Addr} {H : Nat → Option Addr × Nat} {L : List (List (List UInt8))} (h : RdSS w B A H L) {i : Nat} (hi : i < L.length) :
    ∃ b off, A = some ⟨b, off, none⟩ ∧ b < B ∧ w.cell? ⟨b, off + i, none⟩ = some (.slice (H i).1 (L.getD i []).length (H i).2) := by
  obtain ⟨b, off, hA, hb, hc⟩ := h.top (by rw [hdV_length]; omega)
  exact ⟨b, off, hA, hb, hc i _ (hdV_get H hi)⟩
/-- Not fine, to Recovery. -/
def badR (D S : Int) (v : List (List UInt8)) : Bool := !(fineB D S v)
/-- Not fine, to Mend. -/
def badM (D S : Int) (v : List (List UInt8)) : Bool := decide (0 < v.length) && !(fineB D S v)

set_option maxRecDepth 100000 in
set_option maxHeartbeats 1000000 in
theorem badR_any (A : Option Addr) (n c g : Nat) (D R S M : Int) (rows : List (List UInt8)) (w : World) (hl : rows.length = n) (hrd : RdV w w.heap.size A (rows.map sv)) (hn : n ≤ maxLen) (hs : ShapeAt w g D R S M) :
    Calls Try.prog 18 #[.slice A n c, .pointer (some ⟨g, 0, none⟩)] w fun e w' => e = .returned (.bool (badR D S rows)) ∧ Below w.heap.size w w' := by
  unfold badR
  have HF := Lib.hid (fine_any A n c D R S M rows w hl hrd hn)
  generalize fineB D S rows = q at HF ⊢
  have c0 := hs.d
  have c1 := hs.r
  have c2 := hs.s
  have c3 := hs.m
  unfold shV at HF
  clear hl hrd hn hs
  go_enter Try.func18, Try.ntmps18
  go_wp2_with (go_at_call 19; refine HF.out.mono ?_; rintro e w' ⟨rfl, hb⟩)
  go_ret
  exact ⟨rfl, hb⟩

set_option maxRecDepth 100000 in
set_option maxHeartbeats 1000000 in
theorem badM_any (A : Option Addr) (n c g : Nat) (D R S M : Int) (rows : List (List UInt8)) (w : World) (hl : rows.length = n) (hrd : RdV w w.heap.size A (rows.map sv)) (hn : n ≤ maxLen) (hs : ShapeAt w g D R S M) :
    Calls Try.prog 25 #[.slice A n c, .pointer (some ⟨g, 0, none⟩)] w fun e w' => e = .returned (.bool (badM D S rows)) ∧ Below w.heap.size w w' := by
  unfold badM
  have HF := Lib.hid (fine_any A n c D R S M rows w hl hrd hn)
  rw [hl]
  generalize fineB D S rows = q at HF ⊢
  have c0 := hs.d
  have c1 := hs.r
  have c2 := hs.s
  have c3 := hs.m
  unfold shV at HF
  clear hl hrd hn hs
  by_cases h : 0 < n
  · rw [decide_eq_true h]
    go_enter Try.func25, Try.ntmps25
    go_wp2_with (go_at_call 19; refine HF.out.mono ?_; rintro e w' ⟨rfl, hb⟩)
    go_ret
    exact ⟨rfl, hb⟩
  · rw [decide_eq_false h]
    go_enter Try.func25, Try.ntmps25
    go_wp2_with fail
    go_ret
    exact ⟨rfl, Below.refl _ _⟩

set_option maxRecDepth 100000 in
set_option maxHeartbeats 1000000 in
theorem index_badR (A : Option Addr) (n c g : Nat) (D R S M : Int) (H : Nat → Option Addr × Nat) (L : List (List (List UInt8))) (w : World) (hl : L.length = n) (hrd : RdSS w w.heap.size A H L) (hn : n ≤ maxLen) (k : Nat) (hk : k ≤ n)
    (hz : ∀ j, j < k → badR D S (L.getD j []) = false) (hnz : k < n → badR D S (L.getD k []) = true) (hs : ShapeAt w g D R S M) (hg : g < w.heap.size) :
    Calls Try.prog 29 #[.slice A n c, .func (.func 18) #[] #[.pointer (some ⟨g, 0, none⟩)]] w fun e w' => e = .returned (.int .i64 (if k < n then (k : Int) else -1)) ∧ Below w.heap.size w w' := by
  unfold maxLen at hn
  have HL := Lib.hid hl
  have HRD := Lib.hid hrd
  have HZ := Lib.hid hz
  have HNZ := Lib.hid hnz
  have HS := Lib.hid hs
  clear hl hrd hz hnz hs
  go_enter Try.func29, Try.ntmps29
  go_wp2_with fail
  go_loopw [8] (fun i wr => ∃ i' : Nat, i' ≤ k ∧ i = .int .i64 i' ∧ Below w.heap.size w wr) (fun i _ => n - (intOf i).toNat)
  case atStart => exact ⟨0, Nat.zero_le _, rfl, Below.refl _ _⟩
  case round =>
    obtain ⟨j, hj, rfl, hbel⟩ := hrel
    have HB := Lib.hid hbel
    have hs1 := hbel.size
    by_cases hlt : j < n
    · have hjl : j < L.length := by rw [HL.out]; exact hlt
      have HR1 := Lib.hid ((HRD.out.below hbel).more hs1)
      obtain ⟨b, off, rfl, hb, c1⟩ := HR1.out.cell hjl
      have HC := Lib.hid (badR_any (H j).1 (L.getD j []).length (H j).2 g D R S M (L.getD j []) wr rfl (HR1.out.rows j hjl) (HR1.out.lens j hjl) (HS.out.below hg hbel))
      have z1 := HZ.out j
      have z2 : j = k → badR D S (L.getD j []) = true := fun e => by subst e; exact HNZ.out hlt
      generalize badR D S (L.getD j []) = q at HC z1 z2
      generalize (L.getD j []).length = m at c1 HC
      generalize (H j).1 = Aj at c1 HC
      generalize (H j).2 = cj at c1 HC
      clear HR1 hbel
      by_cases hik : j < k
      · have z3 := z1 hik
        subst z3
        clear z1 z2
        go_wp2_with (go_at_call 18; refine HC.out.mono ?_; rintro e w' ⟨rfl, hb'⟩)
        go_roundw
        case rel => exact ⟨j + 1, by omega, by go_num, bstep HB.out (Nat.le_refl _) hb'⟩
        case measure => simp only [intOf]; omega
      · obtain rfl : j = k := by omega
        have z3 := z2 rfl
        subst z3
        clear z1 z2
        go_wp2_with (go_at_call 18; refine HC.out.mono ?_; rintro e w' ⟨rfl, hb'⟩)
        go_ret
        exact ⟨rfl, bstep HB.out (Nat.le_refl _) hb'⟩
    · go_wp2
      go_ret
      exact ⟨rfl, hbel⟩

set_option maxRecDepth 100000 in
set_option maxHeartbeats 1000000 in
theorem contains_badR (A : Option Addr) (n c g : Nat) (D R S M : Int) (H : Nat → Option Addr × Nat) (L : List (List (List UInt8))) (w : World) (hl : L.length = n) (hrd : RdSS w w.heap.size A H L) (hn : n ≤ maxLen) (hs : ShapeAt w g D R S M) (hg : g < w.heap.size) :
    Calls Try.prog 17 #[.slice A n c, .func (.func 18) #[] #[.pointer (some ⟨g, 0, none⟩)]] w fun e w' => e = .returned (.bool (L.any (badR D S))) ∧ Below w.heap.size w w' := by
  obtain ⟨k, hk, h1, h2, h3⟩ := first_any (badR D S) [] L
  rw [hl] at hk h2 h3
  rw [h3]
  have HC := index_badR A n c g D R S M H L w hl hrd hn k hk h1 h2 hs hg
  clear h1 h2 h3 hrd hl hs
  by_cases e : k < n
  · rw [if_pos e] at HC
    have HH := Lib.hid HC
    have hk0 : (0 : Int) ≤ (k : Int) := by omega
    rw [decide_eq_true e]
    clear HC e
    go_enter Try.func17, Try.ntmps17
    go_wp2_with (go_at_call 29; refine HH.out.mono ?_; rintro e w' ⟨rfl, hb⟩)
    go_ret
    exact ⟨rfl, hb⟩
  · rw [if_neg e] at HC
    have HH := Lib.hid HC
    rw [decide_eq_false e]
    clear HC e
    go_enter Try.func17, Try.ntmps17
    go_wp2_with (go_at_call 29; refine HH.out.mono ?_; rintro e w' ⟨rfl, hb⟩)
    go_ret
    exact ⟨rfl, hb⟩

set_option maxRecDepth 100000 in
set_option maxHeartbeats 1000000 in
theorem index_badM (A : Option Addr) (n c g : Nat) (D R S M : Int) (H : Nat → Option Addr × Nat) (L : List (List (List UInt8))) (w : World) (hl : L.length = n) (hrd : RdSS w w.heap.size A H L) (hn : n ≤ maxLen) (k : Nat) (hk : k ≤ n)
    (hz : ∀ j, j < k → badM D S (L.getD j []) = false) (hnz : k < n → badM D S (L.getD k []) = true) (hs : ShapeAt w g D R S M) (hg : g < w.heap.size) :
    Calls Try.prog 29 #[.slice A n c, .func (.func 25) #[] #[.pointer (some ⟨g, 0, none⟩)]] w fun e w' => e = .returned (.int .i64 (if k < n then (k : Int) else -1)) ∧ Below w.heap.size w w' := by
  unfold maxLen at hn
  have HL := Lib.hid hl
  have HRD := Lib.hid hrd
  have HZ := Lib.hid hz
  have HNZ := Lib.hid hnz
  have HS := Lib.hid hs
  clear hl hrd hz hnz hs
  go_enter Try.func29, Try.ntmps29
  go_wp2_with fail
  go_loopw [8] (fun i wr => ∃ i' : Nat, i' ≤ k ∧ i = .int .i64 i' ∧ Below w.heap.size w wr) (fun i _ => n - (intOf i).toNat)
  case atStart => exact ⟨0, Nat.zero_le _, rfl, Below.refl _ _⟩
  case round =>
    obtain ⟨j, hj, rfl, hbel⟩ := hrel
    have HB := Lib.hid hbel
    have hs1 := hbel.size
    by_cases hlt : j < n
    · have hjl : j < L.length := by rw [HL.out]; exact hlt
      have HR1 := Lib.hid ((HRD.out.below hbel).more hs1)
      obtain ⟨b, off, rfl, hb, c1⟩ := HR1.out.cell hjl
      have HC := Lib.hid (badM_any (H j).1 (L.getD j []).length (H j).2 g D R S M (L.getD j []) wr rfl (HR1.out.rows j hjl) (HR1.out.lens j hjl) (HS.out.below hg hbel))
      have z1 := HZ.out j
      have z2 : j = k → badM D S (L.getD j []) = true := fun e => by subst e; exact HNZ.out hlt
      generalize badM D S (L.getD j []) = q at HC z1 z2
      generalize (L.getD j []).length = m at c1 HC
      generalize (H j).1 = Aj at c1 HC
      generalize (H j).2 = cj at c1 HC
      clear HR1 hbel
      by_cases hik : j < k
      · have z3 := z1 hik
        subst z3
        clear z1 z2
        go_wp2_with (go_at_call 25; refine HC.out.mono ?_; rintro e w' ⟨rfl, hb'⟩)
        go_roundw
        case rel => exact ⟨j + 1, by omega, by go_num, bstep HB.out (Nat.le_refl _) hb'⟩
        case measure => simp only [intOf]; omega
      · obtain rfl : j = k := by omega
        have z3 := z2 rfl
        subst z3
        clear z1 z2
        go_wp2_with (go_at_call 25; refine HC.out.mono ?_; rintro e w' ⟨rfl, hb'⟩)
        go_ret
        exact ⟨rfl, bstep HB.out (Nat.le_refl _) hb'⟩
    · go_wp2
      go_ret
      exact ⟨rfl, hbel⟩

set_option maxRecDepth 100000 in
set_option maxHeartbeats 1000000 in
theorem contains_badM (A : Option Addr) (n c g : Nat) (D R S M : Int) (H : Nat → Option Addr × Nat) (L : List (List (List UInt8))) (w : World) (hl : L.length = n) (hrd : RdSS w w.heap.size A H L) (hn : n ≤ maxLen) (hs : ShapeAt w g D R S M) (hg : g < w.heap.size) :
    Calls Try.prog 17 #[.slice A n c, .func (.func 25) #[] #[.pointer (some ⟨g, 0, none⟩)]] w fun e w' => e = .returned (.bool (L.any (badM D S))) ∧ Below w.heap.size w w' := by
  obtain ⟨k, hk, h1, h2, h3⟩ := first_any (badM D S) [] L
  rw [hl] at hk h2 h3
  rw [h3]
  have HC := index_badM A n c g D R S M H L w hl hrd hn k hk h1 h2 hs hg
  clear h1 h2 h3 hrd hl hs
  by_cases e : k < n
  · rw [if_pos e] at HC
    have HH := Lib.hid HC
    have hk0 : (0 : Int) ≤ (k : Int) := by omega
    rw [decide_eq_true e]
    clear HC e
    go_enter Try.func17, Try.ntmps17
    go_wp2_with (go_at_call 29; refine HH.out.mono ?_; rintro e w' ⟨rfl, hb⟩)
    go_ret
    exact ⟨rfl, hb⟩
  · rw [if_neg e] at HC
    have HH := Lib.hid HC
    rw [decide_eq_false e]
    clear HC e
    go_enter Try.func17, Try.ntmps17
    go_wp2_with (go_at_call 29; refine HH.out.mono ?_; rintro e w' ⟨rfl, hb⟩)
    go_ret
    exact ⟨rfl, hb⟩

end Go.Proofs.Ythejbmjleohlfaa
