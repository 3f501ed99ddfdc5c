/- The walk of Recovery, where it makes volumes. -/
import Derived.Test.YthejbmjleohlfaaCh
namespace Go.Proofs.Ythejbmjleohlfaa
set_option linter.unusedVariables false
open Go.RowKit Go.Shelf

attribute [local go_sem] Oper.semAt_some

theorem OwnSS.set_far {w : World} {B : Nat} {A : Option Addr} {n c : Nat} {H : Nat → Option Addr × Nat} {L : List (List (List UInt8))} {p : Addr} (h : OwnSS w B A n c H L) (hp : p.block < B) (u : Value) : OwnSS (w.setCell p u) B A n c H L := ⟨h.top.set_far hp u, fun i hi => (h.rows i hi).set_far hp u⟩
theorem OwnSS.otherKind {w w' : World} {B : Nat} {A : Option Addr} {n c : Nat} {H : Nat → Option Addr × Nat} {L : List (List (List UInt8))} {row : Option Nat} (h : OwnSS w B A n c H L) (hg : w.grownBy w' row) (ho : ∀ r, row = some r → ∃ o : Obj, w.heap[r]? = some o ∧ o.isCells = false) : OwnSS w' B A n c H L := ⟨h.top.otherKind hg ho, fun i hi => (h.rows i hi).otherKind hg ho⟩
theorem fineB_iff {D S : Int} {v : List (List UInt8)} : fineB D S v = true ↔ (v.length : Int) = D ∧ ∀ r ∈ v, (r.length : Int) = S := by
  unfold fineB
  simp
theorem badR_no {D S : Nat} {v : List (List UInt8)} (hb : badR D S v = false) : v.length = D ∧ ∀ r, r < D → (v.getD r []).length = S := by
  have hf := fineB_iff.1 (show fineB D S v = true by unfold badR at hb; revert hb; cases fineB D S v <;> simp)
  have h1 : v.length = D := by have := hf.1; omega
  exact ⟨h1, fun r hrr => by
    have h2 := hf.2 (v.getD r []) (by rw [List.getD, List.getElem?_eq_getElem (by omega)]; exact List.getElem_mem _)
    omega⟩
set_option maxRecDepth 100000 in
set_option maxHeartbeats 8000000 in
theorem rec_ok (A : Option Addr) (n c D S M h : Nat) (R : Int) (H : Nat → Option Addr × Nat) (L : List (List (List UInt8))) (w : World) (hl : L.length = n) (hrd : RdSS w w.heap.size A H L) (hsh : shapeB D R S M = true) (hS : S = 2 * h) (hn1 : 1 ≤ n) (hany : L.any (badR D S) = false) (h96 : n + M ≤ 96) :
    Calls Try.prog 10 #[shV D R S M, .slice A n c] w fun e w' => ∃ (A' : Option Addr) (c' : Nat) (H' : Nat → Option Addr × Nat), e = .returned (.tuple #[.slice A' M c', .int .i64 0]) ∧ OwnSS w' w.heap.size A' M c' H' (recL D S M L) ∧ Below w.heap.size w w' := by
  have HL := Lib.hid hl
  have HRD := Lib.hid hrd
  have HSH := Lib.hid hsh
  have HANY := Lib.hid hany
  have HSS := Lib.hid hS
  have hsb := shapeB_iff.1 hsh
  have hD1 : 1 ≤ D := by omega
  have hD : D ≤ 64 := by omega
  have hS2 : S ≤ 512 := by omega
  have hM : M ≤ 32 := by omega
  have HFN := Lib.hid (show ∀ i, i < n → 0 < (L.getD i []).length → (L.getD i []).length = D ∧ ∀ r, r < D → ((L.getD i []).getD r []).length = S from fun i hi _ => by
    have hb : badR D S (L.getD i []) = false := by
      refine Bool.eq_false_iff.2 fun hb => ?_
      rw [Bool.eq_false_iff] at hany
      refine hany (List.any_eq_true.2 ⟨L.getD i [], ?_, hb⟩)
      rw [List.getD, List.getElem?_eq_getElem (by omega)]
      exact List.getElem_mem _
    exact badR_no hb)
  clear hl hrd hsh hany hS hsb
  unfold shV
  refine (callsIn_wide (n := 5)).1 ?_
  refine callsIn_of_wp_marks Try.func10 rfl trivial ?_ rfl
  simp only [Try.ntmps10, List.size_toArray, List.length_cons, List.length_nil, Nat.reduceAdd, Nat.reduceSub, Array.replicate_succ, Array.replicate_zero, List.push_toArray, List.append_toArray, List.nil_append, List.cons_append]
  refine wpIn_wide.2 ?_
  go_wp2_with fail
  have BX1 := Boxes.new w D R S M
  have B1 := recW_below w D R S M
  have hs1 := recW_size w D R S M
  show Calls _ _ _ (recW w D R S M) _
  obtain ⟨w1, hw1⟩ : ∃ w1, w1 = recW w D R S M := ⟨_, rfl⟩
  rw [← hw1] at BX1 B1 hs1 ⊢
  clear hw1
  refine (shape_any D R S M w1).mono ?_
  rintro e w2 ⟨rfl, hb2⟩
  have BX2 := Lib.hid (BX1.below hb2 (by omega))
  have B2 := Lib.hid (bstep B1 (Nat.le_refl _) hb2)
  have hs2 := hb2.size
  clear BX1 B1 hb2
  rw [HSH.out]
  have t1 : ((n : Int) == 0) = false := by rw [beq_eq_false_iff_ne]; omega
  have c0 := BX2.out.sh.d
  have c1 := BX2.out.sh.r
  have c2 := BX2.out.sh.s
  have c3 := BX2.out.sh.m
  go_wp2_with fail
  refine (contains_badR A n c w.heap.size D R S M H L w2 HL.out ((HRD.out.below B2.out).more B2.out.size) (by unfold maxLen; omega) BX2.out.sh (by omega)).mono ?_
  rintro e w3 ⟨rfl, hb3⟩
  rw [HANY.out]
  have BX3 := Lib.hid (BX2.out.below hb3 (by omega))
  have B3 := Lib.hid (bstep B2.out (Nat.le_refl _) hb3)
  have hs3 := hb3.size
  have v1 : IntKind.i64.wrap ((n : Int) + (M : Int)) = (n : Int) + (M : Int) := IntWalk.i64_in _ ⟨by omega, by omega⟩
  have v2 : decide ((96 : Int) < (n : Int) + (M : Int)) = false := decide_eq_false (by omega)
  clear c0 c1 c2 c3 hb3 BX2 B2
  have c0 := BX3.out.sh.d
  have c1 := BX3.out.sh.r
  have c2 := BX3.out.sh.s
  have c3 := BX3.out.sh.m
  go_wp2_with fail
  refine (made_any D S R M M w3 hD hS2 (by omega)).mono ?_
  rintro e w4 ⟨g, cg, hv, hr, rfl, ht4, hb4⟩
  have BX4 := Lib.hid (BX3.out.below hb4 (by omega))
  have B4 := Lib.hid (bstep B3.out (Nat.le_refl _) hb4)
  have hs4 := hb4.size
  have T4 := Lib.hid ht4
  have HRW := Lib.hid (show ∀ i r, i < M → r < D → w3.heap.size ≤ (hr i r).1 ∧ (hr i r).1 < w4.heap.size from fun i r hi hrr => (ht4.row i r hi hrr rfl).blkS)
  clear c0 c1 c2 c3 hb4 ht4 BX3 B3
  have BX5 := BX4.out.below (balloc w4 (.cells #[.slice (some ⟨g, 0, none⟩) M cg] 51)) (by omega)
  have c0 := BX5.sh.d
  have c1 := BX5.sh.r
  have c2 := BX5.sh.s
  have c3 := BX5.sh.m
  go_wp2_with fail
  obtain ⟨w5, hw5⟩ : ∃ w5, w5 = w4.alloc (.cells #[.slice (some ⟨g, 0, none⟩) M cg] 51) := ⟨_, rfl⟩
  have OB5 := Boxed.new w4 51 (.slice (some ⟨g, 0, none⟩) M cg)
  have T5 := T4.out.below (balloc w4 (.cells #[.slice (some ⟨g, 0, none⟩) M cg] 51))
  have B5 := B4.out.alloc B4.out.size (.cells #[.slice (some ⟨g, 0, none⟩) M cg] 51)
  have hs5 : w5.heap.size = w4.heap.size + 1 := by rw [hw5]; simp
  rw [← hw5] at BX5 OB5 T5 B5 ⊢
  clear c0 c1 c2 c3 hw5 BX4 T4 B4
  refine (words_any A n c D R S M w5).mono ?_
  rintro e W0 ⟨rfl, hW0⟩
  have SB := (ShapeAt.new w5 D R S M).below (B := w5.heap.size + 1) (by omega) ((Below.refl _ (w5.alloc (shO D R S M))).alloc (by simp) (.cells #[.slice A n c] 23))
  have VB := (Boxed.new (w5.alloc (shO D R S M)) 23 (.slice A n c)).cell
  have hsW : W0.heap.size = w5.heap.size + 2 := by rw [hW0]; simp
  have hbW : Below w5.heap.size w5 W0 := by rw [hW0]; exact ((Below.refl _ w5).alloc (Nat.le_refl _) _).alloc (by simp) _
  simp only [World.size_alloc] at VB
  rw [← hW0] at SB VB
  rw [hs5] at SB VB hsW
  have SB6 := Lib.hid SB
  have VB6 := Lib.hid VB
  have BX6 := Lib.hid (BX5.below hbW (by omega))
  have OB6 := Lib.hid (boxed_below OB5 (by omega) hbW)
  have T6 := Lib.hid (T5.below hbW)
  have B6 := Lib.hid (bstep B5 (Nat.le_refl _) hbW)
  have RD6 := Lib.hid (HRD.out.below B6.out)
  clear hW0 SB VB hbW BX5 OB5 T5 B5
  go_wp2_with fail
  refine (wpIn_wide (n := 5)).1 ?_
  refine wpIn_seen rfl (by omega) (gf := 32) (lb := #[.pointer (some ⟨w4.heap.size + 1, 0, none⟩), .pointer (some ⟨w4.heap.size + 1 + 1, 0, none⟩)]) rfl trivial (enters_of Try.func32 (by kernel_rfl) rfl)
    (encs := encH n) (Kp := KpC w.heap.size (w4.heap.size + 1) (w4.heap.size + 1 + 1)) (Seen := SeenW L n D h) (S := fun xs => xs.length = D * h) (Sp := fun _ => True) (N := D * h) (w0 := W0)
    (fun l J Jx W hW hJ hJx hY h0 => words1_in _ (by omega) l _ _ w.heap.size n c D S h R M A H L J Jx W hJ hY (SB6.out.below (by omega) hW) ((hW.cell (p := ⟨w4.heap.size + 1 + 1, 0, none⟩) (by show w4.heap.size + 1 + 1 < _; omega)).trans VB6.out) HL.out (RD6.out.below (hW.mono (by omega))) HSS.out hD hS2 hn1 (by omega) HFN.out (by have := hW.size; omega) (by have := hW.size; omega) (by have := hW.size; omega) h0)
    (fun h k => kpC_t h k) (kpC_b (by omega) (by omega) (by omega)) (Below.refl _ _) (fun _ => rfl)
    (fun pre V => TabP V w3.heap.size g cg M D S M (fun _ _ => true) hv hr (tabK h pre.length (recF L n M)) ∧ Boxed V w4.heap.size 51 (.slice (some ⟨g, 0, none⟩) M cg) ∧ Boxes V w.heap.size D R S M ∧ Below w.heap.size w V ∧ W0.heap.size ≤ V.heap.size)
    (fun _ _ => False)
    (fun s X Y row hs hg ho => ⟨hs.1.otherKind hg (fun r e => (ho r e).2), boxed_other hs.2.1 hg (fun r e => (ho r e).2), hs.2.2.1.otherKind hg (fun r e => (ho r e).2), hs.2.2.2.1.grown hg hs.2.2.2.1.size (fun k e => by have := (ho k e).1; omega), Nat.le_trans hs.2.2.2.2 hg.size⟩)
    (fun _ _ _ _ hs _ _ => hs)
    ⟨by rw [show tabK h ([] : List Hand).length (recF L n M) = fun _ _ _ => 0 from tabK_zero h _]; exact T6.out, OB6.out, BX6.out, B6.out, Nat.le_refl _⟩
    (fun pre x a' V => ∃ Bp, ((w4.heap.size + 1 + 1 < Bp ∧ Bp < V.heap.size) ∧ V.cell? ⟨Bp, 0, none⟩ = some (.int .i64 x.1) ∧ V.cell? ⟨Bp, 1, none⟩ = some (.int .i64 x.2.1)) ∧ a' = { tmps := List.toArray ((.agg #[.int .i64 D, .int .i64 R, .int .i64 S, .int .i64 M] : Value) :: (.slice A n c : Value) :: (.pointer (some ⟨w.heap.size, 0, none⟩) : Value) :: undef :: (.pointer (some ⟨w.heap.size + 1, 0, none⟩) : Value) :: (.pointer (some ⟨w.heap.size + 1 + 1, 0, none⟩) : Value) :: (.pointer (some ⟨w4.heap.size, 0, none⟩) : Value) :: (.pointer (some ⟨Bp, 0, none⟩) : Value) :: (.slice (some ⟨x.2.2, 0, none⟩) n n : Value) :: undef :: undef :: (.bool false : Value) :: (.agg #[.int .i64 D, .int .i64 R, .int .i64 S, .int .i64 M] : Value) :: (.bool true : Value) :: (.bool false : Value) :: (.bool false : Value) :: (.slice A n c : Value) :: (.int .i64 n : Value) :: (.bool false : Value) :: (.bool false : Value) :: (.bool false : Value) :: (.slice A n c : Value) :: (.func (.func 18) #[] #[.pointer (some ⟨w.heap.size, 0, none⟩)] : Value) :: (.bool false : Value) :: (.bool false : Value) :: (.bool false : Value) :: (.slice A n c : Value) :: (.int .i64 n : Value) :: (.pointer (some ⟨w.heap.size, 3, none⟩) : Value) :: (.int .i64 M : Value) :: (.int .i64 ((n : Int) + (M : Int)) : Value) :: (.bool false : Value) :: (.agg #[.int .i64 D, .int .i64 R, .int .i64 S, .int .i64 M] : Value) :: (.pointer (some ⟨w.heap.size, 3, none⟩) : Value) :: (.int .i64 M : Value) :: (.slice (some ⟨g, 0, none⟩) M cg : Value) :: (.agg #[.int .i64 D, .int .i64 R, .int .i64 S, .int .i64 M] : Value) :: (.slice A n c : Value) :: (.func (.func 32) #[] #[.pointer (some ⟨w4.heap.size + 1, 0, none⟩), .pointer (some ⟨w4.heap.size + 1 + 1, 0, none⟩)] : Value) :: (.agg #[.int .i64 x.1, .int .i64 x.2.1] : Value) :: (.slice (some ⟨x.2.2, 0, none⟩) n n : Value) :: undef :: undef :: undef :: undef :: undef :: undef :: undef :: undef :: undef :: undef :: undef :: undef :: undef :: undef :: undef :: undef :: []), defers := [] } ∧ SeenW L n D h pre x V)
    (fun pre x a' s X Y row hs hg ho => by
      obtain ⟨Bp, ⟨h1, h2, h3⟩, h4, h5⟩ := hs
      exact ⟨Bp, ⟨⟨h1.1, Nat.lt_of_lt_of_le h1.2 hg.size⟩, cell_kept h2 hg (fun r e => (ho r e).2), cell_kept h3 hg (fun r e => (ho r e).2)⟩, h4, h5.otherKind hg (fun r e => (ho r e).2)⟩)
    ?assign ?body ?done ?stop
  case assign =>
    intro l pre x W K hI hseen hK
    simp only [encH]
    gi_wp2
    have hsz := hI.2.2.2.2
    have hbw := balloc W (.cells #[.int .i64 x.1, .int .i64 x.2.1] 57)
    have hgw := World.grownBy_alloc W (.cells #[.int .i64 x.1, .int .i64 x.2.1] 57) none
    exact hK _ _ ((KeepsOthers.alloc _ _).from _) (kpC_grown hgw hI.2.2.2.1.size (by omega) (by omega)) ⟨hI.1.below hbw, boxed_below hI.2.1 hI.2.1.lt hbw, hI.2.2.1.below hbw (by omega), hI.2.2.2.1.alloc hI.2.2.2.1.size _, Nat.le_trans hsz hgw.size⟩
      ⟨W.heap.size, ⟨⟨by omega, by simp⟩, by go_cell, by go_cell⟩, rfl, hseen.otherKind hgw (fun r e => by cases e)⟩
  case body =>
    rintro l pre ⟨xr, xa, G⟩ a' V ⟨HT, hob, hbx, hbel, hsz⟩ ⟨Bp, ⟨⟨hBp, hBp2⟩, cp0, cp1⟩, rfl, hseen⟩ hlen
    obtain ⟨r, p, hr1, hp1, hpre, hx1, hx2, how⟩ := hseen
    dsimp only at hx1 hx2 how cp0 cp1 ⊢
    subst hx1
    have HA := Lib.hid hx2
    clear hx2
    have HW := Lib.hid (show Own V 0 (some ⟨G, 0, none⟩) n n (wordL L n xr xa) by rw [HA.out]; exact how)
    have HWL := Lib.hid (show (wordL L n xr xa).length = n from tab_length _ _)
    have HIT := Lib.hid HT
    have HOB := Lib.hid hob
    have HBX := Lib.hid hbx
    have HBE := Lib.hid hbel
    have HNX := Lib.hid (show ∀ i b, i < M → b < S → putTo (tabK h pre.length (recF L n M)) xr xa (checkL (wordL L n xr xa) M) M i = putTo (tabK h pre.length (recF L n M)) xr xa (checkL (wordL L n xr xa) M) M i from fun _ _ _ _ => rfl)
    have haS : xa + 1 < S := by rw [HA.out, HSS.out]; omega
    have c3 := hbx.sh.m
    have e6 := hob.cell
    clear how HT hob hbx hbel HNX
    gi_wp2_with (first
      | (refine ⟨trivial, ?_⟩; gi_at_call 22; refine (CallsIn.inRound l (callsIn_wide.2 (check_ok (some ⟨G, 0, none⟩) n n M (wordL L n xr xa) V HWL.out HW.out.rd (by omega)))).mono ?_; rintro e V2 ⟨A5, c5, rfl, hm5, hb5⟩; rw [checkL_length]; have e7 := (hb5.cell (p := ⟨w4.heap.size, 0, none⟩) HOB.out.lt).trans e6; have cp2 := (hb5.cell (p := ⟨Bp, 0, none⟩) hBp2).trans cp0; have cp3 := (hb5.cell (p := ⟨Bp, 1, none⟩) hBp2).trans cp1)
      | (refine ⟨trivial, ?_⟩; gi_at_call 23; refine (CallsIn.inRound l (callsIn_wide.2 (put_any w3.heap.size g cg M D S xr xa hv hr (tabK h pre.length (recF L n M)) A5 M c5 (checkL (wordL L n xr xa) M) V2 (HIT.out.below hb5) (checkL_length _ _) hm5.rdU (Nat.le_refl _) (by omega) hr1 haS hS2 (by have := hb5.size; omega)))).mono ?_; rintro e V3 ⟨⟨v, rfl⟩, ht3, hb3, hk3⟩))
    have hsz2 := hb5.size
    have hsz3 := hb3.size
    have hpl : (pre ++ [((xr, xa, G) : Hand)]).length = pre.length + 1 := by simp
    have kept : ∀ k, k < V.heap.size → (∀ i, i < M → k ≠ (hr i xr).1) → V3.heap[k]? = V.heap[k]? := fun k hk hne => (hk3 k (by omega) hne).trans (hb5.block k hk)
    have hbv : Below w3.heap.size V V3 := (hb5.mono (by omega)).trans hb3
    refine ⟨⟨by omega, fun k o _ hk ho => ?_⟩, ⟨hbv.mono (by omega), kept _ (by omega) (fun i hi => by have := HRW.out i xr hi hr1; omega), kept _ (by omega) (fun i hi => by have := HRW.out i xr hi hr1; omega)⟩, ?_, ?_, HBX.out.below hbv (by omega), HBE.out.trans (hbv.mono (by omega)), by omega⟩
    · refine (kept k (Array.getElem?_eq_some_iff.1 hk).1 fun i hi e => ?_).trans hk
      obtain ⟨cur, hcur⟩ := (HIT.out.row i xr hi hr1 rfl).heapAt
      rw [← e, hk] at hcur
      injection hcur with hcur
      subst hcur
      cases ho
    · refine ht3.congr fun i r a hi hrr haS2 => ?_
      rw [hpl, hpre, HA.out]
      exact tabK_next (fun i a _ h2 => by unfold recF; rw [h2]) hp1 i r a hi (by rw [HSS.out] at haS2; omega)
    · exact (kept _ HOB.out.lt (fun i hi => by have := HRW.out i xr hi hr1; omega)).trans HOB.out
  case done =>
    rintro Dd xs W hDd hlen ⟨HT, hob, hbx, hbel, hsz⟩ hK
    have HTF := Lib.hid (show TabP W w3.heap.size g cg M D S M (fun _ _ => true) hv hr (recF L n M) from HT.congr fun i r a hi hrr haS2 => by
      rw [hlen]
      exact tabK_all hrr (by rw [HSS.out] at haS2; omega))
    have HBX := Lib.hid hbx
    have HBE := Lib.hid hbel
    have e6 := hob.cell
    clear HT hob hbx hbel
    go_wp2_with fail
    refine (texts_any w3.heap.size g cg M D S hv hr (recF L n M) W HTF.out (by omega) hD hS2).mono ?_
    rintro e W2 ⟨A7, c7, H7, rfl, hss, hb7⟩
    have BX7 := HBX.out.below hb7 (by omega)
    have HSS7 := Lib.hid hss
    have HB7 := Lib.hid (bstep HBE.out (Nat.le_refl _) hb7)
    have hK7 := Lib.hid ((hb7.block Dd (Array.getElem?_eq_some_iff.1 hK).1).trans hK)
    have f1 := BX7.ob.frozen
    have e1 := BX7.ob.cell
    have f2 := BX7.eb.frozen
    have e2 := BX7.eb.cell
    clear hss hb7 hK e6
    go_wp2_with fail
    obtain ⟨W3, hW3⟩ : ∃ W3, W3 = (W2.setCell ⟨w.heap.size + 1, 0, none⟩ (.slice A7 M c7)).setCell ⟨w.heap.size + 1 + 1, 0, none⟩ (.int .i64 0) := ⟨_, rfl⟩
    have hK3 : W3.heap[Dd]? = some (.deferred (some [])) := by
      rw [hW3]
      exact ((KeepsOthers.setCell W2 ⟨w.heap.size + 1, 0, none⟩ (.slice A7 M c7)).trans (KeepsOthers.setCell _ ⟨w.heap.size + 1 + 1, 0, none⟩ (.int .i64 0))).same Dd _ hK7.out rfl
    have r1 : W3.cell? ⟨w.heap.size + 1, 0, none⟩ = some (.slice A7 M c7) := by rw [hW3]; go_cell
    have r2 : W3.cell? ⟨w.heap.size + 1 + 1, 0, none⟩ = some (.int .i64 0) := by rw [hW3]; go_cell
    have HO3 := Lib.hid (show OwnSS W3 W.heap.size A7 M c7 H7 (tabL M D S (recF L n M)) by
      rw [hW3]
      exact (HSS7.out.set_far (p := ⟨w.heap.size + 1, 0, none⟩) (by show w.heap.size + 1 < _; omega) _).set_far (p := ⟨w.heap.size + 1 + 1, 0, none⟩) (by show w.heap.size + 1 + 1 < _; omega) _)
    have HB3 := Lib.hid (show Below w.heap.size w W3 by
      rw [hW3]
      exact (HB7.out.setCell (p := ⟨w.heap.size + 1, 0, none⟩) (by show w.heap.size ≤ w.heap.size + 1; omega) _).setCell (p := ⟨w.heap.size + 1 + 1, 0, none⟩) (by show w.heap.size ≤ w.heap.size + 1 + 1; omega) _)
    rw [← hW3]
    have hoth : ∀ r, some Dd = some r → ∃ o : Obj, W3.heap[r]? = some o ∧ o.isCells = false := fun r e => by
      cases e
      exact ⟨_, hK3, rfl⟩
    refine ⟨by simp, .inl ⟨_, _, rfl, run_takeDeferred hK3, ?_⟩⟩
    refine ⟨_, results_cells rfl _ _ (w.heap.size + 1) (w.heap.size + 1 + 1) (.slice A7 M c7) (.int .i64 0) rfl rfl (cell_kept r1 (grownBy_putObj' W3 Dd _) hoth) (cell_kept r2 (grownBy_putObj' W3 Dd _) hoth), A7, c7, H7, rfl, ?_, ?_⟩
    · rw [recL, HL.out]
      exact (HO3.out.otherKind (grownBy_putObj' W3 Dd _) hoth).less (by omega)
    · exact HB3.out.grown (grownBy_putObj' W3 Dd _) HB3.out.size (fun k e => by cases e; omega)
  case stop =>
    rintro Dd pre W _ _ hf _
    exact hf.elim
end Go.Proofs.Ythejbmjleohlfaa
