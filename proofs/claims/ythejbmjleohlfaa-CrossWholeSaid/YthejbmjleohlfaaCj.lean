/- The walk of Mend: where it refuses. -/
import Derived.Test.YthejbmjleohlfaaCi
import Derived.Test.YthejbmjleohlfaaDv2
namespace Go.Proofs.Ythejbmjleohlfaa
set_option linter.unusedVariables false
open Go.RowKit Go.Shelf

attribute [local go_sem] Oper.semAt_some

/-- The error that Mend hands back, ahead of any word. -/
def mendCode (D R S M k : Int) (L : List (List (List UInt8))) : Int := if shapeB D R S M = false ∨ k < 1 ∨ (L.length : Int) - M ≠ k ∨ L.any (badM D S) = true then 1 else if 96 < L.length then 40 else 0

set_option maxRecDepth 100000 in
set_option maxHeartbeats 8000000 in
theorem mend_bad (A : Option Addr) (n c : Nat) (D R S M k : Int) (H : Nat → Option Addr × Nat) (L : List (List (List UInt8))) (w : World) (hl : L.length = n) (hrd : RdSS w w.heap.size A H L) (hn : n ≤ 1000000) (h : mendCode D R S M k L ≠ 0) :
    Calls Try.prog 12 #[shV D R S M, .int .i64 k, .slice A n c] w fun e w' => e = .returned (.tuple #[.slice none 0 0, .int .i64 (mendCode D R S M k L)]) ∧ Below w.heap.size w w' := by
  have HL := Lib.hid hl
  have HRD := Lib.hid hrd
  have HC := Lib.hid h
  clear hl hrd h
  obtain ⟨kk, hk⟩ : ∃ kk, kk = mendCode D R S M k L := ⟨_, rfl⟩
  rw [← hk]
  have HK := Lib.hid hk
  clear hk
  unfold shV
  refine (callsIn_wide (n := 5)).1 ?_
  refine callsIn_of_wp_marks Try.func12 rfl trivial ?_ rfl
  simp only [Try.ntmps12, List.size_toArray, List.length_cons, List.length_nil, Nat.reduceAdd, Nat.reduceSub, Array.replicate_succ, Array.replicate_zero, List.push_toArray, List.append_toArray, List.nil_append, List.cons_append]
  refine wpIn_wide.2 ?_
  go_wp2_with fail
  have BX1 := Boxes.new w D R S M
  have B1 := recW_below w D R S M
  have hs1 := recW_size w D R S M
  show Calls _ _ _ (recW w D R S M) _
  obtain ⟨w1, hw1⟩ : ∃ w1, w1 = recW w D R S M := ⟨_, rfl⟩
  rw [← hw1] at BX1 B1 hs1 ⊢
  clear hw1
  refine (shape_any D R S M w1).mono ?_
  rintro e w2 ⟨rfl, hb2⟩
  have BX2 := Lib.hid (BX1.below hb2 (by omega))
  have B2 := Lib.hid (bstep B1 (Nat.le_refl _) hb2)
  have hs2 := hb2.size
  clear BX1 B1 hb2
  cases hsh : shapeB D R S M with
  | false =>
    have HE := Lib.hid (HK.out.trans (show mendCode D R S M k L = 1 from if_pos (.inl hsh)))
    clear hsh
    have f1 := BX2.out.ob.frozen
    have e1 := BX2.out.ob.cell
    have f2 := BX2.out.eb.frozen
    have e2 := BX2.out.eb.cell
    go_wp2_with fail
    refine ⟨_, results_cells rfl _ _ (w.heap.size + 1) (w.heap.size + 1 + 1) (.slice none 0 0) (.int .i64 1) rfl rfl (by go_cell) (by go_cell), ?_⟩
    exact ⟨by rw [HE.out], (B2.out.setCell (p := ⟨w.heap.size + 1, 0, none⟩) (by show w.heap.size ≤ w.heap.size + 1; omega) _).setCell (p := ⟨w.heap.size + 1 + 1, 0, none⟩) (by show w.heap.size ≤ w.heap.size + 1 + 1; omega) _⟩
  | true =>
    have hsb := shapeB_iff.1 hsh
    by_cases hk1 : k < 1
    · have HE := Lib.hid (HK.out.trans (show mendCode D R S M k L = 1 from if_pos (.inr (.inl hk1))))
      have u1 : decide (k < (1 : Int)) = true := decide_eq_true hk1
      clear hsb hsh hk1
      have f1 := BX2.out.ob.frozen
      have e1 := BX2.out.ob.cell
      have f2 := BX2.out.eb.frozen
      have e2 := BX2.out.eb.cell
      go_wp2_with fail
      refine ⟨_, results_cells rfl _ _ (w.heap.size + 1) (w.heap.size + 1 + 1) (.slice none 0 0) (.int .i64 1) rfl rfl (by go_cell) (by go_cell), ?_⟩
      exact ⟨by rw [HE.out], (B2.out.setCell (p := ⟨w.heap.size + 1, 0, none⟩) (by show w.heap.size ≤ w.heap.size + 1; omega) _).setCell (p := ⟨w.heap.size + 1 + 1, 0, none⟩) (by show w.heap.size ≤ w.heap.size + 1 + 1; omega) _⟩
    · have u1 : decide (k < (1 : Int)) = false := decide_eq_false hk1
      have v1 : IntKind.i64.wrap ((n : Int) - M) = (n : Int) - M := IntWalk.i64_in _ ⟨by omega, by omega⟩
      have c4 := BX2.out.sh.m
      by_cases hkn : (n : Int) - M ≠ k
      · have HE := Lib.hid (HK.out.trans (show mendCode D R S M k L = 1 from if_pos (.inr (.inr (.inl (by rw [HL.out]; exact hkn))))))
        have u2 : ((n : Int) - M != k) = true := by simpa using hkn
        clear hsb hsh hk1 hkn
        have f1 := BX2.out.ob.frozen
        have e1 := BX2.out.ob.cell
        have f2 := BX2.out.eb.frozen
        have e2 := BX2.out.eb.cell
        go_wp2_with fail
        refine ⟨_, results_cells rfl _ _ (w.heap.size + 1) (w.heap.size + 1 + 1) (.slice none 0 0) (.int .i64 1) rfl rfl (by go_cell) (by go_cell), ?_⟩
        exact ⟨by rw [HE.out], (B2.out.setCell (p := ⟨w.heap.size + 1, 0, none⟩) (by show w.heap.size ≤ w.heap.size + 1; omega) _).setCell (p := ⟨w.heap.size + 1 + 1, 0, none⟩) (by show w.heap.size ≤ w.heap.size + 1 + 1; omega) _⟩
      · have u2 : ((n : Int) - M != k) = false := by simpa using hkn
        have HB := Lib.hid (contains_badM A n c w.heap.size D R S M H L w2 HL.out ((HRD.out.below B2.out).more B2.out.size) (by unfold maxLen; omega) BX2.out.sh (by omega))
        have c0 := BX2.out.sh.d
        have c1 := BX2.out.sh.r
        have c2 := BX2.out.sh.s
        cases hany : L.any (badM D S) with
        | true =>
          rw [hany] at HB
          have HE := Lib.hid (HK.out.trans (show mendCode D R S M k L = 1 from if_pos (.inr (.inr (.inr hany)))))
          clear hany hsh hsb hkn hk1
          go_wp2_with fail
          refine HB.out.mono ?_
          rintro e w3 ⟨rfl, hb3⟩
          have BX3 := Lib.hid (BX2.out.below hb3 (by omega))
          have B3 := Lib.hid (bstep B2.out (Nat.le_refl _) hb3)
          have f1 := BX3.out.ob.frozen
          have e1 := BX3.out.ob.cell
          have f2 := BX3.out.eb.frozen
          have e2 := BX3.out.eb.cell
          go_wp2_with fail
          refine ⟨_, results_cells rfl _ _ (w.heap.size + 1) (w.heap.size + 1 + 1) (.slice none 0 0) (.int .i64 1) rfl rfl (by go_cell) (by go_cell), ?_⟩
          exact ⟨by rw [HE.out], (B3.out.setCell (p := ⟨w.heap.size + 1, 0, none⟩) (by show w.heap.size ≤ w.heap.size + 1; omega) _).setCell (p := ⟨w.heap.size + 1 + 1, 0, none⟩) (by show w.heap.size ≤ w.heap.size + 1 + 1; omega) _⟩
        | false =>
          rw [hany] at HB
          have hcode : mendCode D R S M k L = if 96 < L.length then 40 else 0 := if_neg (by rw [hsh, hany, HL.out]; simp [hk1, hkn])
          have h96 : 96 < n := by
            refine Classical.byContradiction fun h => HC.out ?_
            rw [hcode, if_neg (by rw [HL.out]; exact h)]
          have HE := Lib.hid (HK.out.trans (hcode.trans (if_pos (by rw [HL.out]; exact h96))))
          have v2 : decide ((96 : Int) < (n : Int)) = true := decide_eq_true (by omega)
          clear hany hsh hcode h96 hsb hkn hk1
          go_wp2_with fail
          refine HB.out.mono ?_
          rintro e w3 ⟨rfl, hb3⟩
          have BX3 := Lib.hid (BX2.out.below hb3 (by omega))
          have B3 := Lib.hid (bstep B2.out (Nat.le_refl _) hb3)
          have f1 := BX3.out.ob.frozen
          have e1 := BX3.out.ob.cell
          have f2 := BX3.out.eb.frozen
          have e2 := BX3.out.eb.cell
          go_wp2_with fail
          refine ⟨_, results_cells rfl _ _ (w.heap.size + 1) (w.heap.size + 1 + 1) (.slice none 0 0) (.int .i64 40) rfl rfl (by go_cell) (by go_cell), ?_⟩
          exact ⟨by rw [HE.out], (B3.out.setCell (p := ⟨w.heap.size + 1, 0, none⟩) (by show w.heap.size ≤ w.heap.size + 1; omega) _).setCell (p := ⟨w.heap.size + 1 + 1, 0, none⟩) (by show w.heap.size ≤ w.heap.size + 1 + 1; omega) _⟩
end Go.Proofs.Ythejbmjleohlfaa
