/- The walk of Mend, where it makes volumes right. -/
import Derived.Test.YthejbmjleohlfaaCj
namespace Go.Proofs.Ythejbmjleohlfaa
set_option linter.unusedVariables false
open Go.RowKit Go.Shelf

attribute [local go_sem] Oper.semAt_some

theorem int_el : El 42 3 (.int .i64 0) 8 := ⟨Try.underlying42, by kernel_rfl, by decide, rfl⟩
/-- A place as a value. -/
def pv64 (p : Nat) : Value := .int .i64 (p : Int)
/-- The volumes, of the first k, that are gone. -/
def goneV (L : List (List (List UInt8))) (k : Nat) : List Nat := (List.range k).filter (fun i => decide ((L.getD i []).length = 0))
theorem goneV_yes {L : List (List (List UInt8))} {k : Nat} (h : (L.getD k []).length = 0) : goneV L (k + 1) = goneV L k ++ [k] := by
  unfold goneV
  rw [List.range_succ, List.filter_append, List.filter_cons_of_pos (by simpa using h)]
  rfl
theorem goneV_no {L : List (List (List UInt8))} {k : Nat} (h : ¬ (L.getD k []).length = 0) : goneV L (k + 1) = goneV L k := by
  unfold goneV
  rw [List.range_succ, List.filter_append, List.filter_cons_of_neg (by simpa using h), List.filter_nil, List.append_nil]
theorem goneV_facts (L : List (List (List UInt8))) (n : Nat) : (goneV L n).Nodup ∧ (∀ g ∈ goneV L n, g < n) ∧ (goneV L n).length ≤ n := by
  unfold goneV
  exact ⟨List.Nodup.sublist List.filter_sublist List.nodup_range, fun g hg => List.mem_range.1 (List.mem_filter.1 hg).1, Nat.le_trans (List.length_filter_le _ _) (by simp)⟩
theorem badM_no {D S : Nat} {v : List (List UInt8)} (hb : badM D S v = false) (h0 : 0 < v.length) : v.length = D ∧ ∀ r, r < D → (v.getD r []).length = S := by
  refine badR_no ?_
  unfold badM at hb
  rw [decide_eq_true h0, Bool.true_and] at hb
  exact hb

theorem word_gs (A Ag : Option Addr) (n c ng cg r : Nat) (l : List F) (gs : List Nat) (w : World) (hl : l.length = n) (hrd : Rd w w.heap.size A l) (hz : gs.length = ng) (hI : RdI w w.heap.size Ag (gs.map fun g : Nat => (g : Int))) (hn1 : 1 ≤ n) (hn : n ≤ 255) (hrn : r ≤ n) (hng : ng ≤ 1000) (hnd : gs.Nodup) (hlt : ∀ g ∈ gs, g < n) :
    Calls Try.prog 27 #[.slice A n c, .int .i64 r, .slice Ag ng cg] w (RetDec w n r gs l) := by
  have hb : mayB n r (gs.map fun g : Nat => (g : Int)) = true := by
    refine mayB_iff.2 ⟨⟨hn1, hn, by omega, by omega⟩, List.pairwise_map.2 (hnd.imp fun hne e => hne (by omega)), fun z hz => ?_⟩
    obtain ⟨g, hg, rfl⟩ := List.mem_map.1 hz
    have := hlt g hg
    omega
  by_cases h : ng ≤ r
  · exact word_in A Ag n c ng cg r l gs w hl hrd hz hI hn1 hn hrn hb h hnd hlt
  · refine (word_lost A Ag n c ng cg r _ w (by rw [List.length_map]; exact hz) (by omega) hI (by omega) hb (by omega)).mono ?_
    rintro e w' ⟨he, hbl⟩
    exact .inr ⟨fun d hd => by have := hd.few; omega, he, hbl⟩
theorem ints_of {w : World} {B n c : Nat} {A : Option Addr} {gs : List Nat} (h : OwnV 3 w B A n c (gs.map pv64)) : RdI w w.heap.size A (gs.map fun g : Nat => (g : Int)) := fun h0 => by
  obtain ⟨b, off, hA, hlt, hc⟩ := h.rd (by simpa using h0)
  refine ⟨b, off, hA, hlt, fun j hj => ?_⟩
  rw [List.length_map] at hj
  refine (hc j (pv64 (gs.getD j 0)) (by rw [List.getElem?_map, List.getElem?_eq_getElem hj, List.getD, List.getElem?_eq_getElem hj]; rfl)).trans ?_
  rw [List.getElem?_map, List.getElem?_eq_getElem hj, List.getD, List.getElem?_eq_getElem hj]
  rfl
theorem unl_self (gs : List Nat) (l : List F) (n : Nat) : unl gs l l n = 0 := by
  unfold unl
  rw [List.length_eq_zero_iff, List.filter_eq_nil_iff]
  intro i _ h
  simp at h
/-- A word that is right is decoded to itself. -/
theorem dec_self {n r : Nat} {l : List F} (hl : l.length = n) (h : Nought l r) : Dec n r [] l l := ⟨hl, h, by rw [unl_self]; exact Nat.zero_le _⟩
/-- What a table holds of words f. -/
def mendF (f : Nat → Nat → List F) : Nat → Nat → Nat → UInt8 := fun i r a => byteOf ((f r (a / 2)).getD i 0) a
theorem keeps_below {V V' : World} (h : Below V.heap.size V V') : KeepsOthers V V' := ⟨h.size, fun k _ hk _ => (h.block k (Array.getElem?_eq_some_iff.1 hk).1).trans hk⟩
theorem pos_inj {h r p r' p' : Nat} (hp : p < h) (hp' : p' < h) (e : r' * h + p' = r * h + p) : r' = r ∧ p' = p := by
  rcases Nat.lt_trichotomy r' r with h1 | h1 | h1
  · have := Nat.mul_le_mul_right h (show r' + 1 ≤ r by omega)
    rw [Nat.succ_mul] at this
    omega
  · subst h1; exact ⟨rfl, by omega⟩
  · have := Nat.mul_le_mul_right h (show r + 1 ≤ r' by omega)
    rw [Nat.succ_mul] at this
    omega
def updW (f : Nat → Nat → List F) (r p : Nat) (d : List F) : Nat → Nat → List F := fun r' p' => if r' = r ∧ p' = p then d else f r' p'
theorem mend_step {h r p n : Nat} {f : Nat → Nat → List F} {d : List F} (hp : p < h) (i r' b : Nat) (hi : i < n) (hb : b / 2 < h) : putTo (tabK h (r * h + p) (mendF f)) r (2 * p) d n i r' b = tabK h (r * h + p + 1) (mendF (updW f r p d)) i r' b := by
  rw [← tabK_next (n := n) (word := d) (fun i a _ h2 => by unfold mendF updW; rw [if_pos ⟨rfl, h2⟩]) hp i r' b hi hb, putTo_eq, putTo_eq]
  have e : tabK h (r * h + p) (mendF f) i r' b = tabK h (r * h + p) (mendF (updW f r p d)) i r' b := by
    by_cases h3 : r' * h + b / 2 < r * h + p
    · rw [tabK_pos h3, tabK_pos h3]
      unfold mendF updW
      rw [if_neg (fun h => by rw [h.1, h.2] at h3; omega)]
    · rw [tabK_neg h3, tabK_neg h3]
  rw [e]
/-- What Mend hands back, of volumes that are fine or gone. -/
def RetMendV (w : World) (n D S M h : Nat) (L : List (List (List UInt8))) (e : Ending) (w' : World) : Prop :=
  (∃ (f : Nat → Nat → List F) (A' : Option Addr) (c' : Nat) (H' : Nat → Option Addr × Nat), (∀ r p, r < D → p < h → Dec n M (goneV L n) (wordL L n r (2 * p)) (f r p)) ∧ e = .returned (.tuple #[.slice A' n c', .int .i64 0]) ∧ OwnSS w' w.heap.size A' n c' H' (tabL n D S (mendF f)) ∧ Below w.heap.size w w') ∨
  ((∃ r p, r < D ∧ p < h ∧ ∀ d, ¬ Dec n M (goneV L n) (wordL L n r (2 * p)) d) ∧ e = .returned (.tuple #[.slice none 0 0, .int .i64 54]) ∧ Below w.heap.size w w')

set_option maxRecDepth 100000 in
set_option maxHeartbeats 8000000 in
theorem mend_ok (A : Option Addr) (n c D S M h : Nat) (R k : Int) (H : Nat → Option Addr × Nat) (L : List (List (List UInt8))) (w : World) (hl : L.length = n) (hrd : RdSS w w.heap.size A H L) (hsh : shapeB D R S M = true) (hS : S = 2 * h) (hk1 : 1 ≤ k) (hkn : (n : Int) - (M : Int) = k) (hany : L.any (badM D S) = false) (h96 : n ≤ 96) :
    Calls Try.prog 12 #[shV D R S M, .int .i64 k, .slice A n c] w (RetMendV w n D S M h L) := by
  have HL := Lib.hid hl
  have HRD := Lib.hid hrd
  have HSH := Lib.hid hsh
  have HANY := Lib.hid hany
  have HSS := Lib.hid hS
  have hsb := shapeB_iff.1 hsh
  have hD1 : 1 ≤ D := by omega
  have hD : D ≤ 64 := by omega
  have hS2 : S ≤ 512 := by omega
  have hM : M ≤ 32 := by omega
  have HFN := Lib.hid (show ∀ i, i < n → 0 < (L.getD i []).length → (L.getD i []).length = D ∧ ∀ r, r < D → ((L.getD i []).getD r []).length = S from fun i hi h0 => by
    have hb : badM D S (L.getD i []) = false := by
      refine Bool.eq_false_iff.2 fun hb => ?_
      rw [Bool.eq_false_iff] at hany
      refine hany (List.any_eq_true.2 ⟨L.getD i [], ?_, hb⟩)
      rw [List.getD, List.getElem?_eq_getElem (by omega)]
      exact List.getElem_mem _
    exact badM_no hb h0)
  have u1 : decide (k < (1 : Int)) = false := decide_eq_false (by omega)
  have u2 : ((n : Int) - (M : Int) != k) = false := by simpa using hkn
  have hnM : M + 1 ≤ n := by omega
  have v1 : IntKind.i64.wrap ((n : Int) - (M : Int)) = (n : Int) - (M : Int) := IntWalk.i64_in _ ⟨by omega, by omega⟩
  have v2 : decide ((96 : Int) < (n : Int)) = false := decide_eq_false (by omega)
  clear hl hrd hsh hany hS hsb hkn
  unfold shV
  refine (callsIn_wide (n := 5)).1 ?_
  refine callsIn_of_wp_marks Try.func12 rfl trivial ?_ rfl
  simp only [Try.ntmps12, List.size_toArray, List.length_cons, List.length_nil, Nat.reduceAdd, Nat.reduceSub, Array.replicate_succ, Array.replicate_zero, List.push_toArray, List.append_toArray, List.nil_append, List.cons_append]
  refine wpIn_wide.2 ?_
  go_wp2_with fail
  have BX1 := Boxes.new w D R S M
  have B1 := recW_below w D R S M
  have hs1 := recW_size w D R S M
  show Calls _ _ _ (recW w D R S M) _
  obtain ⟨w1, hw1⟩ : ∃ w1, w1 = recW w D R S M := ⟨_, rfl⟩
  rw [← hw1] at BX1 B1 hs1 ⊢
  clear hw1
  refine (shape_any D R S M w1).mono ?_
  rintro e w2 ⟨rfl, hb2⟩
  have BX2 := Lib.hid (BX1.below hb2 (by omega))
  have B2 := Lib.hid (bstep B1 (Nat.le_refl _) hb2)
  have hs2 := hb2.size
  clear BX1 B1 hb2
  rw [HSH.out]
  have c0 := BX2.out.sh.d
  have c1 := BX2.out.sh.r
  have c2 := BX2.out.sh.s
  have c3 := BX2.out.sh.m
  go_wp2_with fail
  refine (contains_badM A n c w.heap.size D R S M H L w2 HL.out ((HRD.out.below B2.out).more B2.out.size) (by unfold maxLen; omega) BX2.out.sh (by omega)).mono ?_
  rintro e w3 ⟨rfl, hb3⟩
  rw [HANY.out]
  have BX3 := Lib.hid (BX2.out.below hb3 (by omega))
  have B3 := Lib.hid (bstep B2.out (Nat.le_refl _) hb3)
  have hs3 := hb3.size
  clear c0 c1 c2 c3 hb3 BX2 B2
  go_wp2_with fail
  obtain ⟨w4, hw4⟩ : ∃ w4, w4 = w3.alloc (.cells #[.slice none 0 0] 42) := ⟨_, rfl⟩
  have GB4 := Boxed.new w3 42 (.slice none 0 0)
  have BX4 := BX3.out.below (balloc w3 (.cells #[.slice none 0 0] 42)) (by omega)
  have B4 := B3.out.alloc B3.out.size (.cells #[.slice none 0 0] 42)
  have hs4 : w4.heap.size = w3.heap.size + 1 := by rw [hw4]; simp
  rw [← hw4] at GB4 BX4 B4 ⊢
  have BXX := Lib.hid BX4
  have BB4 := Lib.hid B4
  have RD4 := Lib.hid ((HRD.out.below B4).more B4.size)
  clear hw4 BX3 B3 BX4 B4
  go_loopw [46] (fun i wr => ∃ (j m cg : Nat) (Ag : Option Addr), j ≤ n ∧ m ≤ j ∧ i = .int .i64 j ∧ Boxed wr w3.heap.size 42 (.slice Ag m cg) ∧ OwnV 3 wr w4.heap.size Ag m cg ((goneV L j).map pv64) ∧ Below w3.heap.size w4 wr ∧ w4.heap.size ≤ wr.heap.size) (fun i _ => n - (intOf i).toNat)
  case atStart => exact ⟨0, 0, 0, none, Nat.zero_le _, Nat.le_refl _, rfl, GB4, OwnV.nil _ _ _, Below.refl _ _, Nat.le_refl _⟩
  case round =>
    obtain ⟨j, m, cg, Ag, hj, hmj, rfl, hgb, hown, hbel, hsz⟩ := hrel
    have GB := Lib.hid hgb
    have HO := Lib.hid hown
    have HB := Lib.hid hbel
    have BW := Lib.hid (BB4.out.trans (hbel.mono (by omega)))
    have eg := hgb.cell
    clear hgb hown GB4
    by_cases hjn : j < n
    · obtain ⟨b, off, rfl, hb, e1⟩ := (HRD.out.below BW.out).cell (i := j) (by rw [HL.out]; exact hjn)
      have HY := Lib.hid (goneV_yes (L := L) (k := j))
      have HN := Lib.hid (goneV_no (L := L) (k := j))
      have q1 : (0 : Int) ≤ (j : Int) := by omega
      have q2 : (j : Int) < (n : Int) := by omega
      generalize (H j).1 = Aj at e1
      generalize (H j).2 = cj at e1
      generalize hlen : (L.getD j []).length = lj at e1 HY HN
      clear hbel hlen
      by_cases hz : lj = 0
      · have HS := Lib.hid (HY.out hz)
        have z1 : ((lj : Int) == 0) = true := by rw [beq_iff_eq]; omega
        clear HY HN hz
        go_wp2_with (at_builtin; refine wpList_pushV int_el _ rfl _ _ rfl w4.heap.size _ _ _ _ rfl (HO.out.alloc _) wr.heap.size 1 (pv64 j) rfl rfl (by unfold pv64; go_cell) (by omega) (by simp; omega) ?_; intro A2 c2 w9 hown9 hb9 hg9; have gb9 := boxed_below (GB.out.alloc (.cells #[.int .i64 j] 3)) (show w3.heap.size < w4.heap.size by omega) hb9; have f9 := gb9.frozen; have e9 := gb9.cell)
        go_roundw
        case rel => exact ⟨j + 1, m + 1, c2, A2, by omega, by omega, by go_num, gb9.set _, by rw [HS.out, List.map_append]; exact hown9.set_far (p := ⟨w3.heap.size, 0, none⟩) (by show w3.heap.size < _; omega) _, ((HB.out.alloc (by omega) _).trans (hb9.mono (by omega))).setCell (p := ⟨w3.heap.size, 0, none⟩) (Nat.le_refl _) _, by have := hb9.size; simp at this ⊢; omega⟩
        case measure => simp only [intOf]; omega
      · have HS := Lib.hid (HN.out hz)
        have z1 : ((lj : Int) == 0) = false := by rw [beq_eq_false_iff_ne]; omega
        clear HY HN hz
        go_wp2_with fail
        go_roundw
        case rel => exact ⟨j + 1, m, cg, Ag, by omega, by omega, by go_num, GB.out, by rw [HS.out]; exact HO.out, HB.out, hsz⟩
        case measure => simp only [intOf]; omega
    · obtain rfl : n = j := by omega
      obtain ⟨wg, rfl⟩ : ∃ wg, wg = wr := ⟨_, rfl⟩
      have BXG := Lib.hid (BXX.out.below hbel (by omega))
      have c0 := BXG.out.sh.d
      have c1 := BXG.out.sh.r
      have c2 := BXG.out.sh.s
      have c3 := BXG.out.sh.m
      have HML := Lib.hid (show (goneV L n).length = m by have := HO.out.len; rwa [List.length_map] at this)
      have HGF := Lib.hid (goneV_facts L n)
      clear hbel eg
      go_wp2_with fail
      refine (made_any D S R M n wg hD hS2 (by omega)).mono ?_
      rintro e w5 ⟨g, cg2, hv, hr, rfl, ht5, hb5⟩
      have BX5 := BXG.out.below hb5 (by omega)
      have B5 := bstep BW.out (Nat.le_refl _) hb5
      have GB5 := boxed_below GB.out (by omega) hb5
      have HO5 := HO.out.below hb5
      have hs5 := hb5.size
      have HRW := Lib.hid (show ∀ i r, i < n → r < D → wg.heap.size ≤ (hr i r).1 ∧ (hr i r).1 < w5.heap.size from fun i r hi hrr => (ht5.row i r hi hrr rfl).blkS)
      have HGL := Lib.hid (show ∀ g', Ag = some ⟨g', 0, none⟩ → g' < wg.heap.size from fun g' e => HO.out.blk e)
      clear c0 c1 c2 c3 BXG BW GB HO HB
      have c0 := (BX5.below (balloc w5 (.cells #[.slice (some ⟨g, 0, none⟩) n cg2] 51)) (by omega)).sh.d
      have c1 := (BX5.below (balloc w5 (.cells #[.slice (some ⟨g, 0, none⟩) n cg2] 51)) (by omega)).sh.r
      have c2 := (BX5.below (balloc w5 (.cells #[.slice (some ⟨g, 0, none⟩) n cg2] 51)) (by omega)).sh.s
      have c3 := (BX5.below (balloc w5 (.cells #[.slice (some ⟨g, 0, none⟩) n cg2] 51)) (by omega)).sh.m
      go_wp2_with fail
      have hbo := balloc w5 (.cells #[.slice (some ⟨g, 0, none⟩) n cg2] 51)
      have OB6 := Boxed.new w5 51 (.slice (some ⟨g, 0, none⟩) n cg2)
      have hs6 : (w5.alloc (.cells #[.slice (some ⟨g, 0, none⟩) n cg2] 51)).heap.size = w5.heap.size + 1 := by simp
      obtain ⟨w6, hw6⟩ : ∃ w6, w6 = w5.alloc (.cells #[.slice (some ⟨g, 0, none⟩) n cg2] 51) := ⟨_, rfl⟩
      rw [← hw6] at OB6 hbo hs6 ⊢
      clear c0 c1 c2 c3 hw6
      refine (words_any A n c D R S M w6).mono ?_
      rintro e W0 ⟨rfl, hW0⟩
      have SB := (ShapeAt.new w6 D R S M).below (B := w6.heap.size + 1) (by omega) ((Below.refl _ (w6.alloc (shO D R S M))).alloc (by simp) (.cells #[.slice A n c] 23))
      have VB := (Boxed.new (w6.alloc (shO D R S M)) 23 (.slice A n c)).cell
      have hsW : W0.heap.size = w6.heap.size + 2 := by rw [hW0]; simp
      have hbW : Below w6.heap.size w6 W0 := by rw [hW0]; exact ((Below.refl _ w6).alloc (Nat.le_refl _) _).alloc (by simp) _
      simp only [World.size_alloc] at VB
      rw [← hW0] at SB VB
      rw [hs6] at SB VB hsW
      have SB6 := Lib.hid SB
      have VB6 := Lib.hid VB
      have BX7 := Lib.hid ((BX5.below hbo (by omega)).below hbW (by omega))
      have OB7 := Lib.hid (boxed_below OB6 (by omega) hbW)
      have GB7 := Lib.hid (boxed_below (boxed_below GB5 (by omega) hbo) (by omega) hbW)
      have HO7 := Lib.hid ((HO5.below hbo).below hbW)
      have T7 := Lib.hid ((ht5.below hbo).below hbW)
      have B7 := Lib.hid (bstep (bstep B5 (Nat.le_refl _) hbo) (Nat.le_refl _) hbW)
      have RD7 := Lib.hid (HRD.out.below B7.out)
      clear hW0 SB VB hbW BX5 OB6 ht5 B5 GB5 HO5 hbo hb5
      go_wp2_with fail
      refine (wpIn_wide (n := 5)).1 ?_
      refine wpIn_seen rfl (by omega) (gf := 32) (lb := #[.pointer (some ⟨w5.heap.size + 1, 0, none⟩), .pointer (some ⟨w5.heap.size + 1 + 1, 0, none⟩)]) rfl trivial (enters_of Try.func32 (by kernel_rfl) rfl)
        (encs := encH n) (Kp := KpC w.heap.size (w5.heap.size + 1) (w5.heap.size + 1 + 1)) (Seen := SeenW L n D h) (S := fun xs => xs.length = D * h) (Sp := fun _ => True) (N := D * h) (w0 := W0)
        (fun l J Jx W hW hJ hJx hY h0 => words1_in _ (by omega) l _ _ w.heap.size n c D S h R M A H L J Jx W hJ hY (SB6.out.below (by omega) hW) ((hW.cell (p := ⟨w5.heap.size + 1 + 1, 0, none⟩) (by show w5.heap.size + 1 + 1 < _; omega)).trans VB6.out) HL.out (RD7.out.below (hW.mono (by omega))) HSS.out hD hS2 (by omega) (by omega) HFN.out (by have := hW.size; omega) (by have := hW.size; omega) (by have := hW.size; omega) h0)
        (fun h k => kpC_t h k) (kpC_b (by omega) (by omega) (by omega)) (Below.refl _ _) (fun _ => rfl)
        (fun pre V => (∃ f : Nat → Nat → List F, (∀ r p, r < D → p < h → r * h + p < pre.length → Dec n M (goneV L n) (wordL L n r (2 * p)) (f r p)) ∧ TabP V wg.heap.size g cg2 n D S n (fun _ _ => true) hv hr (tabK h pre.length (mendF f))) ∧
          Boxed V w5.heap.size 51 (.slice (some ⟨g, 0, none⟩) n cg2) ∧ Boxes V w.heap.size D R S M ∧ Boxed V w3.heap.size 42 (.slice Ag m cg) ∧ OwnV 3 V w4.heap.size Ag m cg ((goneV L n).map pv64) ∧ Below w.heap.size w V ∧ W0.heap.size ≤ V.heap.size)
        (fun _ V => (∃ r p, r < D ∧ p < h ∧ ∀ d, ¬ Dec n M (goneV L n) (wordL L n r (2 * p)) d) ∧ Boxed V (w.heap.size + 1) 23 (.slice none 0 0) ∧ Boxed V (w.heap.size + 1 + 1) 27 (.int .i64 54) ∧ Below w.heap.size w V)
        (fun s X Y row hs hg ho => by
          obtain ⟨⟨f, hf, ht⟩, h2, h3, h4, h5, h6, h7⟩ := hs
          exact ⟨⟨f, hf, ht.otherKind hg (fun r e => (ho r e).2)⟩, boxed_other h2 hg (fun r e => (ho r e).2), h3.otherKind hg (fun r e => (ho r e).2), boxed_other h4 hg (fun r e => (ho r e).2), h5.otherKind hg (fun r e => (ho r e).2), h6.grown hg h6.size (fun k e => by have := (ho k e).1; omega), Nat.le_trans h7 hg.size⟩)
        (fun s X Y row hs hg ho => ⟨hs.1, boxed_other hs.2.1 hg (fun r e => (ho r e).2), boxed_other hs.2.2.1 hg (fun r e => (ho r e).2), hs.2.2.2.grown hg hs.2.2.2.size (fun k e => by have := (ho k e).1; omega)⟩)
        ⟨⟨fun _ _ => [], fun _ _ _ _ hlt => absurd hlt (Nat.not_lt_zero _), by rw [show tabK h ([] : List Hand).length (mendF fun _ _ => []) = fun _ _ _ => 0 from tabK_zero h _]; exact T7.out⟩, OB7.out, BX7.out, GB7.out, HO7.out, B7.out, Nat.le_refl _⟩
        (fun pre x a' V => ∃ Bp, ((w5.heap.size + 1 + 1 < Bp ∧ Bp < V.heap.size) ∧ V.cell? ⟨Bp, 0, none⟩ = some (.int .i64 x.1) ∧ V.cell? ⟨Bp, 1, none⟩ = some (.int .i64 x.2.1)) ∧ a' = { tmps := List.toArray ((Value.agg #[Value.int IntKind.i64 (D : Int), Value.int IntKind.i64 R, Value.int IntKind.i64 (S : Int), Value.int IntKind.i64 (M : Int)]) :: (Value.int IntKind.i64 k) :: (Value.slice A n c) :: (Value.pointer (some ⟨w.heap.size, 0, none⟩)) :: undef :: undef :: (Value.pointer (some ⟨w.heap.size + 1, 0, none⟩)) :: (Value.pointer (some ⟨w.heap.size + 1 + 1, 0, none⟩)) :: (Value.func (Fn.func 25) #[] #[Value.pointer (some ⟨w.heap.size, 0, none⟩)]) :: (Value.pointer (some ⟨w3.heap.size, 0, none⟩)) :: u10 :: u11 :: (Value.pointer (some ⟨w5.heap.size, 0, none⟩)) :: (Value.pointer (some ⟨Bp, 0, none⟩)) :: (Value.slice (some ⟨x.2.2, 0, none⟩) n n) :: undef :: undef :: (Value.func (Fn.func 25) #[] #[Value.pointer (some ⟨w.heap.size, 0, none⟩)]) :: (Value.bool false) :: (Value.agg #[Value.int IntKind.i64 (D : Int), Value.int IntKind.i64 R, Value.int IntKind.i64 (S : Int), Value.int IntKind.i64 (M : Int)]) :: (Value.bool true) :: (Value.bool false) :: (Value.bool false) :: (Value.int IntKind.i64 k) :: (Value.bool false) :: (Value.bool false) :: (Value.bool false) :: (Value.slice A n c) :: (Value.int IntKind.i64 (n : Int)) :: (Value.pointer (some ⟨w.heap.size, 3, none⟩)) :: (Value.int IntKind.i64 (M : Int)) :: (Value.int IntKind.i64 ((n : Int) - (M : Int))) :: (Value.int IntKind.i64 k) :: (Value.bool false) :: (Value.bool false) :: (Value.bool false) :: (Value.slice A n c) :: (Value.func (Fn.func 25) #[] #[Value.pointer (some ⟨w.heap.size, 0, none⟩)]) :: (Value.bool false) :: (Value.bool false) :: (Value.bool false) :: (Value.slice A n c) :: (Value.int IntKind.i64 (n : Int)) :: (Value.bool false) :: (Value.slice A n c) :: (Value.int IntKind.i64 (n : Int)) :: (Value.int IntKind.i64 (n : Int)) :: (Value.bool false) :: u48 :: u49 :: u50 :: u51 :: u52 :: u53 :: u54 :: u55 :: u56 :: u57 :: u58 :: (Value.agg #[Value.int IntKind.i64 (D : Int), Value.int IntKind.i64 R, Value.int IntKind.i64 (S : Int), Value.int IntKind.i64 (M : Int)]) :: (Value.slice A n c) :: (Value.int IntKind.i64 (n : Int)) :: (Value.slice (some ⟨g, 0, none⟩) n cg2) :: (Value.agg #[Value.int IntKind.i64 (D : Int), Value.int IntKind.i64 R, Value.int IntKind.i64 (S : Int), Value.int IntKind.i64 (M : Int)]) :: (Value.slice A n c) :: (Value.func (Fn.func 32) #[] #[Value.pointer (some ⟨w5.heap.size + 1, 0, none⟩), Value.pointer (some ⟨w5.heap.size + 1 + 1, 0, none⟩)]) :: (Value.agg #[Value.int IntKind.i64 x.1, Value.int IntKind.i64 x.2.1]) :: (Value.slice (some ⟨x.2.2, 0, none⟩) n n) :: undef :: undef :: undef :: undef :: undef :: undef :: undef :: undef :: undef :: undef :: undef :: undef :: undef :: undef :: undef :: undef :: undef :: undef :: undef :: undef :: undef :: undef :: undef :: undef :: undef :: undef :: undef :: []), defers := [] } ∧ SeenW L n D h pre x V)
        (fun pre x a' s X Y row hs hg ho => by
          obtain ⟨Bp, ⟨h1, h2, h3⟩, h4, h5⟩ := hs
          exact ⟨Bp, ⟨⟨h1.1, Nat.lt_of_lt_of_le h1.2 hg.size⟩, cell_kept h2 hg (fun r e => (ho r e).2), cell_kept h3 hg (fun r e => (ho r e).2)⟩, h4, h5.otherKind hg (fun r e => (ho r e).2)⟩)
        ?assign ?body ?done ?stop
      case assign =>
        intro l pre x W K hI hseen hK
        obtain ⟨⟨f, hf, ht⟩, h2, h3, h4, h5, h6, hsz⟩ := hI
        simp only [encH]
        gi_wp2
        have hbw := balloc W (.cells #[.int .i64 x.1, .int .i64 x.2.1] 57)
        have hgw := World.grownBy_alloc W (.cells #[.int .i64 x.1, .int .i64 x.2.1] 57) none
        exact hK _ _ ((KeepsOthers.alloc _ _).from _) (kpC_grown hgw h6.size (by omega) (by omega)) ⟨⟨f, hf, ht.below hbw⟩, boxed_below h2 h2.lt hbw, h3.below hbw (by omega), boxed_below h4 h4.lt hbw, h5.below hbw, h6.alloc h6.size _, Nat.le_trans hsz hgw.size⟩
          ⟨W.heap.size, ⟨⟨by omega, by simp⟩, by go_cell, by go_cell⟩, rfl, hseen.otherKind hgw (fun r e => by cases e)⟩
      case body =>
        rintro l pre ⟨xr, xa, G⟩ a' V ⟨⟨f, hf, HT⟩, hob, hbx, hgb, hog, hbel, hsz⟩ ⟨Bp, ⟨⟨hBp, hBp2⟩, cp0, cp1⟩, rfl, hseen⟩ hlen
        obtain ⟨r, p, hr1, hp1, hpre, hx1, hx2, how⟩ := hseen
        dsimp only at hx1 hx2 how cp0 cp1 ⊢
        subst hx1
        have HA := Lib.hid hx2
        clear hx2
        have HW := Lib.hid (show Own V 0 (some ⟨G, 0, none⟩) n n (wordL L n xr xa) by rw [HA.out]; exact how)
        have HWL := Lib.hid (show (wordL L n xr xa).length = n from tab_length _ _)
        have HF := Lib.hid hf
        have HIT := Lib.hid HT
        have HOB := Lib.hid hob
        have HBX := Lib.hid hbx
        have HGB := Lib.hid hgb
        have HOG := Lib.hid hog
        have HBE := Lib.hid hbel
        have haS : xa + 1 < S := by rw [HA.out, HSS.out]; omega
        have c3 := hbx.sh.m
        have e6 := hob.cell
        have eg := hgb.cell
        clear how HT hob hbx hbel hgb hog hf
        by_cases hm0 : 0 < m
        · gi_wp2_with fail
          refine ⟨trivial, ?_⟩
          gi_wp2_with fail
          refine ⟨trivial, ?_⟩
          refine (CallsIn.inRound l (callsIn_wide.2 (word_gs (some ⟨G, 0, none⟩) Ag n n _ cg M (wordL L n xr xa) (goneV L n) V HWL.out (HW.out.below (Below.refl _ V)).rd HML.out (ints_of (HOG.out.below (Below.refl _ V))) (by omega) (by omega) (by omega) (by omega) HGF.out.1 HGF.out.2.1))).mono ?_
          rintro e V2 (⟨A5, c5, d, rfl, ho5, hd5, hb5'⟩ | ⟨hno, rfl, hb5'⟩)
          · have hb5 : Below V.heap.size V V2 := bstep (Below.refl _ V) (Nat.le_refl _) hb5'
            have e7 := (hb5.cell (p := ⟨w5.heap.size, 0, none⟩) HOB.out.lt).trans e6
            have cp2 := (hb5.cell (p := ⟨Bp, 0, none⟩) hBp2).trans cp0
            have cp3 := (hb5.cell (p := ⟨Bp, 1, none⟩) hBp2).trans cp1
            gi_wp2_with (refine ⟨trivial, ?_⟩; gi_at_call 23; refine (CallsIn.inRound l (callsIn_wide.2 (put_any wg.heap.size g cg2 n D S xr xa hv hr (tabK h pre.length (mendF f)) A5 n c5 d V2 (HIT.out.below hb5) hd5.len ho5.rdU (Nat.le_refl _) (by omega) hr1 haS hS2 (by have := hb5.size; omega)))).mono ?_; rintro e V3 ⟨⟨v, rfl⟩, ht3, hb3, hk3⟩)
            have hsz2 := hb5.size
            have hsz3 := hb3.size
            have hpl : (pre ++ [((xr, xa, G) : Hand)]).length = pre.length + 1 := by simp
            have kept : ∀ k, k < V.heap.size → (∀ i, i < n → k ≠ (hr i xr).1) → V3.heap[k]? = V.heap[k]? := fun k hk hne => (hk3 k (by omega) hne).trans (hb5.block k hk)
            have hbv : Below wg.heap.size V V3 := (hb5.mono (by omega)).trans hb3
            refine ⟨⟨by omega, fun k o _ hk ho => ?_⟩, ⟨hbv.mono (by omega), kept _ (by omega) (fun i hi => by have := HRW.out i xr hi hr1; omega), kept _ (by omega) (fun i hi => by have := HRW.out i xr hi hr1; omega)⟩, ⟨updW f xr p d, fun r' p' hr' hp' hlt => ?_, ?_⟩, ?_, HBX.out.below hbv (by omega), boxed_below HGB.out (by omega) hbv, HOG.out.below' HGL.out hbv, HBE.out.trans (hbv.mono (by omega)), by omega⟩
            · refine (kept k (Array.getElem?_eq_some_iff.1 hk).1 fun i hi e => ?_).trans hk
              obtain ⟨cur, hcur⟩ := (HIT.out.row i xr hi hr1 rfl).heapAt
              rw [← e, hk] at hcur
              injection hcur with hcur
              subst hcur
              cases ho
            · by_cases e : r' = xr ∧ p' = p
              · rw [show updW f xr p d r' p' = d from if_pos e, e.1, e.2, ← HA.out]
                exact hd5
              · rw [show updW f xr p d r' p' = f r' p' from if_neg e]
                refine HF.out r' p' hr' hp' ?_
                rw [hpl] at hlt
                have : r' * h + p' ≠ xr * h + p := fun e2 => e (pos_inj hp1 hp' e2)
                omega
            · refine ht3.congr fun i r' a hi hrr haS2 => ?_
              rw [hpl, hpre, HA.out]
              exact mend_step hp1 i r' a hi (by rw [HSS.out] at haS2; omega)
            · exact (kept _ HOB.out.lt (fun i hi => by have := HRW.out i xr hi hr1; omega)).trans HOB.out
          · have hb5 : Below V.heap.size V V2 := bstep (Below.refl _ V) (Nat.le_refl _) hb5'
            have bx := HBX.out.below hb5 (by omega)
            have f1 := bx.ob.frozen
            have e1 := bx.ob.cell
            have f2 := bx.eb.frozen
            have e2 := bx.eb.cell
            gi_wp2_with fail
            refine ⟨((keeps_below hb5).trans ((KeepsOthers.setCell V2 ⟨w.heap.size + 1, 0, none⟩ (.slice none 0 0)).trans (KeepsOthers.setCell _ ⟨w.heap.size + 1 + 1, 0, none⟩ (.int .i64 54)))).from _, ⟨xr, p, hr1, hp1, by rw [← HA.out]; exact hno⟩, (bx.ob.set (.slice none 0 0)).other (by omega) _, (bx.eb.other (by omega) _).set _, ((HBE.out.trans (hb5.mono (by omega))).setCell (p := ⟨w.heap.size + 1, 0, none⟩) (by show w.heap.size ≤ w.heap.size + 1; omega) _).setCell (p := ⟨w.heap.size + 1 + 1, 0, none⟩) (by show w.heap.size ≤ w.heap.size + 1 + 1; omega) _⟩
        · obtain rfl : m = 0 := by omega
          have HGS := Lib.hid (show goneV L n = [] from List.eq_nil_of_length_eq_zero HML.out)
          cases hrb : rightB (wordL L n xr xa) M with
          | true =>
            have HRI := Lib.hid ((rightB_iff (by rw [HWL.out]; omega)).1 hrb)
            gi_wp2_with (first
              | (refine ⟨trivial, ?_⟩; gi_at_call 26; refine (CallsIn.inRound l (callsIn_wide.2 (right_any (some ⟨G, 0, none⟩) n n M (wordL L n xr xa) V HWL.out HW.out.rd))).mono ?_; rintro e V2 ⟨rfl, hb5⟩; rw [hrb]; have e7 := (hb5.cell (p := ⟨w5.heap.size, 0, none⟩) HOB.out.lt).trans e6; have cp2 := (hb5.cell (p := ⟨Bp, 0, none⟩) hBp2).trans cp0; have cp3 := (hb5.cell (p := ⟨Bp, 1, none⟩) hBp2).trans cp1; have ho5 := HW.out.below hb5)
              | (refine ⟨trivial, ?_⟩; gi_at_call 23; refine (CallsIn.inRound l (callsIn_wide.2 (put_any wg.heap.size g cg2 n D S xr xa hv hr (tabK h pre.length (mendF f)) (some ⟨G, 0, none⟩) n n (wordL L n xr xa) V2 (HIT.out.below hb5) HWL.out ho5.rdU (Nat.le_refl _) (by omega) hr1 haS hS2 (by have := hb5.size; omega)))).mono ?_; rintro e V3 ⟨⟨v, rfl⟩, ht3, hb3, hk3⟩))
            obtain ⟨d, hde⟩ : ∃ d, d = wordL L n xr xa := ⟨_, rfl⟩
            have hd5 : Dec n M (goneV L n) (wordL L n xr xa) d := by rw [HGS.out, hde]; exact dec_self HWL.out HRI.out.2
            rw [← hde] at ht3
            have hsz2 := hb5.size
            have hsz3 := hb3.size
            have hpl : (pre ++ [((xr, xa, G) : Hand)]).length = pre.length + 1 := by simp
            have kept : ∀ k, k < V.heap.size → (∀ i, i < n → k ≠ (hr i xr).1) → V3.heap[k]? = V.heap[k]? := fun k hk hne => (hk3 k (by omega) hne).trans (hb5.block k hk)
            have hbv : Below wg.heap.size V V3 := (hb5.mono (by omega)).trans hb3
            refine ⟨⟨by omega, fun k o _ hk ho => ?_⟩, ⟨hbv.mono (by omega), kept _ (by omega) (fun i hi => by have := HRW.out i xr hi hr1; omega), kept _ (by omega) (fun i hi => by have := HRW.out i xr hi hr1; omega)⟩, ⟨updW f xr p d, fun r' p' hr' hp' hlt => ?_, ?_⟩, ?_, HBX.out.below hbv (by omega), boxed_below HGB.out (by omega) hbv, HOG.out.below' HGL.out hbv, HBE.out.trans (hbv.mono (by omega)), by omega⟩
            · refine (kept k (Array.getElem?_eq_some_iff.1 hk).1 fun i hi e => ?_).trans hk
              obtain ⟨cur, hcur⟩ := (HIT.out.row i xr hi hr1 rfl).heapAt
              rw [← e, hk] at hcur
              injection hcur with hcur
              subst hcur
              cases ho
            · by_cases e : r' = xr ∧ p' = p
              · rw [show updW f xr p d r' p' = d from if_pos e, e.1, e.2, ← HA.out]
                exact hd5
              · rw [show updW f xr p d r' p' = f r' p' from if_neg e]
                refine HF.out r' p' hr' hp' ?_
                rw [hpl] at hlt
                have : r' * h + p' ≠ xr * h + p := fun e2 => e (pos_inj hp1 hp' e2)
                omega
            · refine ht3.congr fun i r' a hi hrr haS2 => ?_
              rw [hpl, hpre, HA.out]
              exact mend_step hp1 i r' a hi (by rw [HSS.out] at haS2; omega)
            · exact (kept _ HOB.out.lt (fun i hi => by have := HRW.out i xr hi hr1; omega)).trans HOB.out
          | false =>
            gi_wp2_with (refine ⟨trivial, ?_⟩; gi_at_call 26; refine (CallsIn.inRound l (callsIn_wide.2 (right_any (some ⟨G, 0, none⟩) n n M (wordL L n xr xa) V HWL.out HW.out.rd))).mono ?_; rintro e V1 ⟨rfl, hb1⟩; rw [hrb]; have c4 := (HBX.out.below hb1 (by omega)).sh.m; have eg1 := (boxed_below HGB.out HGB.out.lt hb1).cell)
            refine ⟨trivial, ?_⟩
            refine (CallsIn.inRound l (callsIn_wide.2 (word_gs (some ⟨G, 0, none⟩) Ag n n _ cg M (wordL L n xr xa) (goneV L n) V1 HWL.out (HW.out.below (hb1)).rd HML.out (ints_of (HOG.out.below (hb1))) (by omega) (by omega) (by omega) (by omega) HGF.out.1 HGF.out.2.1))).mono ?_
            rintro e V2 (⟨A5, c5, d, rfl, ho5, hd5, hb5'⟩ | ⟨hno, rfl, hb5'⟩)
            · have hb5 : Below V.heap.size V V2 := bstep (hb1) (Nat.le_refl _) hb5'
              have e7 := (hb5.cell (p := ⟨w5.heap.size, 0, none⟩) HOB.out.lt).trans e6
              have cp2 := (hb5.cell (p := ⟨Bp, 0, none⟩) hBp2).trans cp0
              have cp3 := (hb5.cell (p := ⟨Bp, 1, none⟩) hBp2).trans cp1
              gi_wp2_with (refine ⟨trivial, ?_⟩; gi_at_call 23; refine (CallsIn.inRound l (callsIn_wide.2 (put_any wg.heap.size g cg2 n D S xr xa hv hr (tabK h pre.length (mendF f)) A5 n c5 d V2 (HIT.out.below hb5) hd5.len ho5.rdU (Nat.le_refl _) (by omega) hr1 haS hS2 (by have := hb5.size; omega)))).mono ?_; rintro e V3 ⟨⟨v, rfl⟩, ht3, hb3, hk3⟩)
              have hsz2 := hb5.size
              have hsz3 := hb3.size
              have hpl : (pre ++ [((xr, xa, G) : Hand)]).length = pre.length + 1 := by simp
              have kept : ∀ k, k < V.heap.size → (∀ i, i < n → k ≠ (hr i xr).1) → V3.heap[k]? = V.heap[k]? := fun k hk hne => (hk3 k (by omega) hne).trans (hb5.block k hk)
              have hbv : Below wg.heap.size V V3 := (hb5.mono (by omega)).trans hb3
              refine ⟨⟨by omega, fun k o _ hk ho => ?_⟩, ⟨hbv.mono (by omega), kept _ (by omega) (fun i hi => by have := HRW.out i xr hi hr1; omega), kept _ (by omega) (fun i hi => by have := HRW.out i xr hi hr1; omega)⟩, ⟨updW f xr p d, fun r' p' hr' hp' hlt => ?_, ?_⟩, ?_, HBX.out.below hbv (by omega), boxed_below HGB.out (by omega) hbv, HOG.out.below' HGL.out hbv, HBE.out.trans (hbv.mono (by omega)), by omega⟩
              · refine (kept k (Array.getElem?_eq_some_iff.1 hk).1 fun i hi e => ?_).trans hk
                obtain ⟨cur, hcur⟩ := (HIT.out.row i xr hi hr1 rfl).heapAt
                rw [← e, hk] at hcur
                injection hcur with hcur
                subst hcur
                cases ho
              · by_cases e : r' = xr ∧ p' = p
                · rw [show updW f xr p d r' p' = d from if_pos e, e.1, e.2, ← HA.out]
                  exact hd5
                · rw [show updW f xr p d r' p' = f r' p' from if_neg e]
                  refine HF.out r' p' hr' hp' ?_
                  rw [hpl] at hlt
                  have : r' * h + p' ≠ xr * h + p := fun e2 => e (pos_inj hp1 hp' e2)
                  omega
              · refine ht3.congr fun i r' a hi hrr haS2 => ?_
                rw [hpl, hpre, HA.out]
                exact mend_step hp1 i r' a hi (by rw [HSS.out] at haS2; omega)
              · exact (kept _ HOB.out.lt (fun i hi => by have := HRW.out i xr hi hr1; omega)).trans HOB.out
            · have hb5 : Below V.heap.size V V2 := bstep (hb1) (Nat.le_refl _) hb5'
              have bx := HBX.out.below hb5 (by omega)
              have f1 := bx.ob.frozen
              have e1 := bx.ob.cell
              have f2 := bx.eb.frozen
              have e2 := bx.eb.cell
              gi_wp2_with fail
              refine ⟨((keeps_below hb5).trans ((KeepsOthers.setCell V2 ⟨w.heap.size + 1, 0, none⟩ (.slice none 0 0)).trans (KeepsOthers.setCell _ ⟨w.heap.size + 1 + 1, 0, none⟩ (.int .i64 54)))).from _, ⟨xr, p, hr1, hp1, by rw [← HA.out]; exact hno⟩, (bx.ob.set (.slice none 0 0)).other (by omega) _, (bx.eb.other (by omega) _).set _, ((HBE.out.trans (hb5.mono (by omega))).setCell (p := ⟨w.heap.size + 1, 0, none⟩) (by show w.heap.size ≤ w.heap.size + 1; omega) _).setCell (p := ⟨w.heap.size + 1 + 1, 0, none⟩) (by show w.heap.size ≤ w.heap.size + 1 + 1; omega) _⟩
      case done =>
        rintro Dd xs W hDd hlen ⟨⟨f, hf, HT⟩, hob, hbx, _, _, hbel, hsz⟩ hK
        have HF := Lib.hid hf
        have HTF := Lib.hid (show TabP W wg.heap.size g cg2 n D S n (fun _ _ => true) hv hr (mendF f) from HT.congr fun i r a hi hrr haS2 => by
          rw [hlen]
          exact tabK_all hrr (by rw [HSS.out] at haS2; omega))
        have HLEN := Lib.hid hlen
        have HBX := Lib.hid hbx
        have HBE := Lib.hid hbel
        have e6 := hob.cell
        clear HT hob hbx hbel hf hlen
        go_wp2_with fail
        refine (texts_any wg.heap.size g cg2 n D S hv hr (mendF f) W HTF.out (by omega) hD hS2).mono ?_
        rintro e W2 ⟨A7, c7, H7, rfl, hss, hb7⟩
        have BX9 := HBX.out.below hb7 (by omega)
        have HSS7 := Lib.hid hss
        have HB7 := Lib.hid (bstep HBE.out (Nat.le_refl _) hb7)
        have hK7 := Lib.hid ((hb7.block Dd (Array.getElem?_eq_some_iff.1 hK).1).trans hK)
        have f1 := BX9.ob.frozen
        have e1 := BX9.ob.cell
        have f2 := BX9.eb.frozen
        have e2 := BX9.eb.cell
        clear hss hb7 hK e6
        go_wp2_with fail
        obtain ⟨W3, hW3⟩ : ∃ W3, W3 = (W2.setCell ⟨w.heap.size + 1, 0, none⟩ (.slice A7 n c7)).setCell ⟨w.heap.size + 1 + 1, 0, none⟩ (.int .i64 0) := ⟨_, rfl⟩
        have hK3 : W3.heap[Dd]? = some (.deferred (some [])) := by
          rw [hW3]
          exact ((KeepsOthers.setCell W2 ⟨w.heap.size + 1, 0, none⟩ (.slice A7 n c7)).trans (KeepsOthers.setCell _ ⟨w.heap.size + 1 + 1, 0, none⟩ (.int .i64 0))).same Dd _ hK7.out rfl
        have r1 : W3.cell? ⟨w.heap.size + 1, 0, none⟩ = some (.slice A7 n c7) := by rw [hW3]; go_cell
        have r2 : W3.cell? ⟨w.heap.size + 1 + 1, 0, none⟩ = some (.int .i64 0) := by rw [hW3]; go_cell
        have HO3 := Lib.hid (show OwnSS W3 W.heap.size A7 n c7 H7 (tabL n D S (mendF f)) by
          rw [hW3]
          exact (HSS7.out.set_far (p := ⟨w.heap.size + 1, 0, none⟩) (by show w.heap.size + 1 < _; omega) _).set_far (p := ⟨w.heap.size + 1 + 1, 0, none⟩) (by show w.heap.size + 1 + 1 < _; omega) _)
        have HB3 := Lib.hid (show Below w.heap.size w W3 by
          rw [hW3]
          exact (HB7.out.setCell (p := ⟨w.heap.size + 1, 0, none⟩) (by show w.heap.size ≤ w.heap.size + 1; omega) _).setCell (p := ⟨w.heap.size + 1 + 1, 0, none⟩) (by show w.heap.size ≤ w.heap.size + 1 + 1; omega) _)
        rw [← hW3]
        have hoth : ∀ r, some Dd = some r → ∃ o : Obj, W3.heap[r]? = some o ∧ o.isCells = false := fun r e => by
          cases e
          exact ⟨_, hK3, rfl⟩
        refine ⟨by simp, .inl ⟨_, _, rfl, run_takeDeferred hK3, ?_⟩⟩
        refine ⟨_, results_cells rfl _ _ (w.heap.size + 1) (w.heap.size + 1 + 1) (.slice A7 n c7) (.int .i64 0) rfl rfl (cell_kept r1 (grownBy_putObj' W3 Dd _) hoth) (cell_kept r2 (grownBy_putObj' W3 Dd _) hoth), .inl ⟨f, A7, c7, H7, fun r p hr hp => HF.out r p hr hp ?_, rfl, ?_, ?_⟩⟩
        · rw [HLEN.out]
          have := Nat.mul_le_mul_right h (show r + 1 ≤ D by omega)
          rw [Nat.succ_mul] at this
          omega
        · exact (HO3.out.otherKind (grownBy_putObj' W3 Dd _) hoth).less (by omega)
        · exact HB3.out.grown (grownBy_putObj' W3 Dd _) HB3.out.size (fun k e => by cases e; omega)
      case stop =>
        rintro Dd pre W hDd _ ⟨hno, h1, h2, hb⟩ hK
        have hoth : ∀ r, some Dd = some r → ∃ o : Obj, W.heap[r]? = some o ∧ o.isCells = false := fun r e => by
          cases e
          exact ⟨_, hK, rfl⟩
        have r1 := h1.cell
        have r2 := h2.cell
        gi_wp2
        refine ⟨by simp, .inl ⟨_, _, rfl, run_takeDeferred hK, ?_⟩⟩
        refine ⟨_, results_cells rfl _ _ (w.heap.size + 1) (w.heap.size + 1 + 1) (.slice none 0 0) (.int .i64 54) rfl rfl (cell_kept r1 (grownBy_putObj' W Dd _) hoth) (cell_kept r2 (grownBy_putObj' W Dd _) hoth), .inr ⟨hno, rfl, ?_⟩⟩
        exact hb.grown (grownBy_putObj' W Dd _) hb.size (fun k e => by cases e; omega)
end Go.Proofs.Ythejbmjleohlfaa
