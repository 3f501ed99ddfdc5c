/- The walk of Recovery. -/
import Derived.Test.YthejbmjleohlfaaCf
namespace Go.Proofs.Ythejbmjleohlfaa
set_option linter.unusedVariables false
open Go.RowKit Go.Shelf

attribute [local go_sem] Oper.semAt_some

/-- The error that Recovery hands back. -/
def recCode (D R S M : Int) (L : List (List (List UInt8))) : Int := if shapeB D R S M = false ∨ L = [] ∨ L.any (badR D S) = true then 1 else if 96 < (L.length : Int) + M then 40 else 0
theorem shapeB_iff {D R S M : Int} : shapeB D R S M = true ↔ 1 ≤ D ∧ D ≤ 64 ∧ 0 ≤ R ∧ R ≤ 32 ∧ 2 ≤ S ∧ S ≤ 512 ∧ S.tmod 2 = 0 ∧ 0 ≤ M ∧ M ≤ 32 := by
  unfold shapeB
  simp only [Bool.and_eq_true, decide_eq_true_eq, beq_iff_eq]
  constructor
  · rintro ⟨⟨⟨⟨⟨⟨⟨⟨a, b⟩, c⟩, d⟩, e⟩, f⟩, g⟩, h⟩, i⟩
    exact ⟨a, b, c, d, e, f, g, h, i⟩
  · rintro ⟨a, b, c, d, e, f, g, h, i⟩
    exact ⟨⟨⟨⟨⟨⟨⟨⟨a, b⟩, c⟩, d⟩, e⟩, f⟩, g⟩, h⟩, i⟩
/-- The variables of Recovery and of Mend that lie in memory: the shape, and the two results. -/
structure Boxes (w : World) (b : Nat) (D R S M : Int) : Prop where
  sh : ShapeAt w b D R S M
  ob : Boxed w (b + 1) 23 (.slice none 0 0)
  eb : Boxed w (b + 1 + 1) 27 (.int .i64 0)
theorem boxed_below {w w' : World} {B B' : Nat} {t : TypeId} {v : Value} (h : Boxed w B t v) (hB : B < B') (hb : Below B' w w') : Boxed w' B t v := (hb.block B hB).trans h
theorem Boxes.below {w w' : World} {b B : Nat} {D R S M : Int} (h : Boxes w b D R S M) (hb : Below B w w') (hB : b + 1 + 1 < B) : Boxes w' b D R S M :=
  ⟨h.sh.below (by omega) hb, boxed_below h.ob (by omega) hb, boxed_below h.eb hB hb⟩
theorem results_cells {fn : Func} {p q : Tmp} (hfn : fn.results = #[.cell p 23, .cell q 27]) (tmps : Array Value) (w : World) (g g2 : Nat) (v v2 : Value) (hp : tmps.getD p undef = .pointer (some ⟨g, 0, none⟩)) (hq : tmps.getD q undef = .pointer (some ⟨g2, 0, none⟩))
    (hv : w.cell? ⟨g, 0, none⟩ = some v) (hv2 : w.cell? ⟨g2, 0, none⟩ = some v2) : (results fn tmps).run Try.prog w = .ok (.tuple #[v, v2]) w := by
  simp only [results, hfn]
  simp only [Sem.run_bind, hp, hq, Array.mapM_eq_mapM_toList, List.mapM_cons, List.mapM_nil]
  go_simp
def recW (w : World) (D R S M : Int) : World := ((w.alloc (.cells #[.int .i64 D, .int .i64 R, .int .i64 S, .int .i64 M] 31)).alloc (.cells #[.slice none 0 0] 23)).alloc (.cells #[.int .i64 0] 27)
theorem recW_size (w : World) (D R S M : Int) : (recW w D R S M).heap.size = w.heap.size + 3 := by simp [recW]
theorem recW_below (w : World) (D R S M : Int) : Below w.heap.size w (recW w D R S M) := (((Below.refl _ w).alloc (Nat.le_refl _) _).alloc (by simp) _).alloc (by simp; omega) _
theorem Boxes.new (w : World) (D R S M : Int) : Boxes (recW w D R S M) w.heap.size D R S M := by
  have h1 := ShapeAt.new w D R S M
  have h2 := Boxed.new (w.alloc (.cells #[.int .i64 D, .int .i64 R, .int .i64 S, .int .i64 M] 31)) 23 (.slice none 0 0)
  have h3 := Boxed.new ((w.alloc (.cells #[.int .i64 D, .int .i64 R, .int .i64 S, .int .i64 M] 31)).alloc (.cells #[.slice none 0 0] 23)) 27 (.int .i64 0)
  simp only [World.size_alloc] at h2 h3
  exact ⟨(h1.below (B := w.heap.size + 1) (by omega) (((Below.refl _ _).alloc (by simp [shO]) _).alloc (by simp [shO]) _)), h2.alloc _, h3⟩

set_option maxRecDepth 100000 in
set_option maxHeartbeats 8000000 in
theorem rec_bad (A : Option Addr) (n c : Nat) (D R S M : Int) (H : Nat → Option Addr × Nat) (L : List (List (List UInt8))) (w : World) (hl : L.length = n) (hrd : RdSS w w.heap.size A H L) (hn : n ≤ 1000000) (h : recCode D R S M L ≠ 0) :
    Calls Try.prog 10 #[shV D R S M, .slice A n c] w fun e w' => e = .returned (.tuple #[.slice none 0 0, .int .i64 (recCode D R S M L)]) ∧ Below w.heap.size w w' := by
  have HL := Lib.hid hl
  have HRD := Lib.hid hrd
  have HC := Lib.hid h
  clear hl hrd h
  obtain ⟨k, hk⟩ : ∃ k, k = recCode D R S M L := ⟨_, rfl⟩
  rw [← hk]
  have HK := Lib.hid hk
  clear hk
  unfold shV
  refine (callsIn_wide (n := 5)).1 ?_
  refine callsIn_of_wp_marks Try.func10 rfl trivial ?_ rfl
  simp only [Try.ntmps10, List.size_toArray, List.length_cons, List.length_nil, Nat.reduceAdd, Nat.reduceSub, Array.replicate_succ, Array.replicate_zero, List.push_toArray, List.append_toArray, List.nil_append, List.cons_append]
  refine wpIn_wide.2 ?_
  go_wp2_with fail
  have BX1 := Boxes.new w D R S M
  have B1 := recW_below w D R S M
  have hs1 := recW_size w D R S M
  show Calls _ _ _ (recW w D R S M) _
  obtain ⟨w1, hw1⟩ : ∃ w1, w1 = recW w D R S M := ⟨_, rfl⟩
  rw [← hw1] at BX1 B1 hs1 ⊢
  clear hw1
  refine (shape_any D R S M w1).mono ?_
  rintro e w2 ⟨rfl, hb2⟩
  have BX2 := Lib.hid (BX1.below hb2 (by omega))
  have B2 := Lib.hid (bstep B1 (Nat.le_refl _) hb2)
  have hs2 := hb2.size
  clear BX1 B1 hb2
  cases hsh : shapeB D R S M with
  | false =>
    have HE := Lib.hid (HK.out.trans (show recCode D R S M L = 1 from if_pos (.inl hsh)))
    clear hsh
    have f1 := BX2.out.ob.frozen
    have e1 := BX2.out.ob.cell
    have f2 := BX2.out.eb.frozen
    have e2 := BX2.out.eb.cell
    go_wp2_with fail
    refine ⟨_, results_cells rfl _ _ (w.heap.size + 1) (w.heap.size + 1 + 1) (.slice none 0 0) (.int .i64 1) rfl rfl (by go_cell) (by go_cell), ?_⟩
    exact ⟨by rw [HE.out], (B2.out.setCell (p := ⟨w.heap.size + 1, 0, none⟩) (by show w.heap.size ≤ w.heap.size + 1; omega) _).setCell (p := ⟨w.heap.size + 1 + 1, 0, none⟩) (by show w.heap.size ≤ w.heap.size + 1 + 1; omega) _⟩
  | true =>
    have hsb := shapeB_iff.1 hsh
    by_cases hn0 : n = 0
    · have HE := Lib.hid (HK.out.trans (show recCode D R S M L = 1 from if_pos (.inr (.inl (List.eq_nil_of_length_eq_zero (by rw [HL.out]; exact hn0))))))
      have t1 : ((n : Int) == 0) = true := by rw [beq_iff_eq]; omega
      clear hn0 hsh hsb
      have f1 := BX2.out.ob.frozen
      have e1 := BX2.out.ob.cell
      have f2 := BX2.out.eb.frozen
      have e2 := BX2.out.eb.cell
      go_wp2_with fail
      refine ⟨_, results_cells rfl _ _ (w.heap.size + 1) (w.heap.size + 1 + 1) (.slice none 0 0) (.int .i64 1) rfl rfl (by go_cell) (by go_cell), ?_⟩
      exact ⟨by rw [HE.out], (B2.out.setCell (p := ⟨w.heap.size + 1, 0, none⟩) (by show w.heap.size ≤ w.heap.size + 1; omega) _).setCell (p := ⟨w.heap.size + 1 + 1, 0, none⟩) (by show w.heap.size ≤ w.heap.size + 1 + 1; omega) _⟩
    · have t1 : ((n : Int) == 0) = false := by rw [beq_eq_false_iff_ne]; omega
      have HNE := Lib.hid (show L ≠ [] from fun e => hn0 (by rw [← HL.out, e]; rfl))
      clear hn0
      have HB := Lib.hid (contains_badR A n c w.heap.size D R S M H L w2 HL.out ((HRD.out.below B2.out).more B2.out.size) (by unfold maxLen; omega) BX2.out.sh (by omega))
      have c0 := BX2.out.sh.d
      have c1 := BX2.out.sh.r
      have c2 := BX2.out.sh.s
      have c3 := BX2.out.sh.m
      cases hany : L.any (badR D S) with
      | true =>
        rw [hany] at HB
        have HE := Lib.hid (HK.out.trans (show recCode D R S M L = 1 from if_pos (.inr (.inr hany))))
        clear hany hsh hsb
        go_wp2_with fail
        refine HB.out.mono ?_
        rintro e w3 ⟨rfl, hb3⟩
        have BX3 := Lib.hid (BX2.out.below hb3 (by omega))
        have B3 := Lib.hid (bstep B2.out (Nat.le_refl _) hb3)
        have f1 := BX3.out.ob.frozen
        have e1 := BX3.out.ob.cell
        have f2 := BX3.out.eb.frozen
        have e2 := BX3.out.eb.cell
        go_wp2_with fail
        refine ⟨_, results_cells rfl _ _ (w.heap.size + 1) (w.heap.size + 1 + 1) (.slice none 0 0) (.int .i64 1) rfl rfl (by go_cell) (by go_cell), ?_⟩
        exact ⟨by rw [HE.out], (B3.out.setCell (p := ⟨w.heap.size + 1, 0, none⟩) (by show w.heap.size ≤ w.heap.size + 1; omega) _).setCell (p := ⟨w.heap.size + 1 + 1, 0, none⟩) (by show w.heap.size ≤ w.heap.size + 1 + 1; omega) _⟩
      | false =>
        rw [hany] at HB
        have hcode : recCode D R S M L = if 96 < (L.length : Int) + M then 40 else 0 := if_neg (by rw [hsh, hany]; simp [HNE.out])
        have h96 : 96 < (n : Int) + M := by
          refine Classical.byContradiction fun h => HC.out ?_
          rw [hcode, if_neg (by rw [HL.out]; exact h)]
        have HE := Lib.hid (HK.out.trans (hcode.trans (if_pos (by rw [HL.out]; exact h96))))
        have v1 : IntKind.i64.wrap ((n : Int) + M) = (n : Int) + M := IntWalk.i64_in _ ⟨by omega, by omega⟩
        have v2 : decide ((96 : Int) < (n : Int) + M) = true := decide_eq_true h96
        clear hany hsh hcode h96 hsb
        go_wp2_with fail
        refine HB.out.mono ?_
        rintro e w3 ⟨rfl, hb3⟩
        have BX3 := Lib.hid (BX2.out.below hb3 (by omega))
        have B3 := Lib.hid (bstep B2.out (Nat.le_refl _) hb3)
        have c4 := BX3.out.sh.m
        have f1 := BX3.out.ob.frozen
        have e1 := BX3.out.ob.cell
        have f2 := BX3.out.eb.frozen
        have e2 := BX3.out.eb.cell
        go_wp2_with fail
        refine ⟨_, results_cells rfl _ _ (w.heap.size + 1) (w.heap.size + 1 + 1) (.slice none 0 0) (.int .i64 40) rfl rfl (by go_cell) (by go_cell), ?_⟩
        exact ⟨by rw [HE.out], (B3.out.setCell (p := ⟨w.heap.size + 1, 0, none⟩) (by show w.heap.size ≤ w.heap.size + 1; omega) _).setCell (p := ⟨w.heap.size + 1 + 1, 0, none⟩) (by show w.heap.size ≤ w.heap.size + 1 + 1; omega) _⟩
end Go.Proofs.Ythejbmjleohlfaa
