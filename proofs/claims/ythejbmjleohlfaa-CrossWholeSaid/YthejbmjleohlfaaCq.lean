/- The walk of the statement CrossAny: of whichever M volumes are gone, those that are left tell all. -/
import Derived.Test.YthejbmjleohlfaaCo
import Derived.Test.YthejbmjleohlfaaCp
namespace Go.Proofs.Ythejbmjleohlfaa
set_option linter.unusedVariables false
set_option linter.unusedSimpArgs false
open Go.RowKit Go.Shelf

def zmod (z : Int) (n : Nat) : Nat := ((IntKind.u64.wrap z) % (n : Int)).toNat
theorem u64_nat (z : Int) : ∃ u : Nat, IntKind.u64.wrap z = (u : Int) := by
  have h : IntKind.u64.wrap z = z % 18446744073709551616 := by simp [IntKind.wrap, IntKind.bits, IntKind.signed]
  rw [h]
  exact ⟨(z % 18446744073709551616).toNat, by have := Int.emod_nonneg z (show (18446744073709551616 : Int) ≠ 0 by decide); omega⟩
theorem zmod_lt (z : Int) {n : Nat} (h : 1 ≤ n) : zmod z n < n := by
  unfold zmod
  have h1 := Int.emod_nonneg (IntKind.u64.wrap z) (show (n : Int) ≠ 0 by omega)
  have h2 := Int.emod_lt_of_pos (IntKind.u64.wrap z) (show (0 : Int) < (n : Int) by omega)
  omega
theorem zslot (z : Int) {n : Nat} (h : 1 ≤ n) (hn : n ≤ 100000) : wrap64 ((IntKind.u64.wrap z).tmod (n : Int)) = (zmod z n : Int) := by
  obtain ⟨u, hu⟩ := u64_nat z
  have h1 := zmod_lt z h
  unfold zmod at h1 ⊢
  rw [hu] at h1 ⊢
  have e : ((u : Int)).tmod (n : Int) = (u : Int) % (n : Int) := Int.tmod_eq_emod_of_nonneg (by omega)
  have h2 := Int.emod_nonneg (u : Int) (show (n : Int) ≠ 0 by omega)
  rw [e, IntWalk.wrap64_in _ ⟨by omega, by omega⟩]
  omega
/-- Headers of volumes, and of more behind them. -/
def catH (H H' : Nat → Option Addr × Nat) (n : Nat) (i : Nat) : Option Addr × Nat := if i < n then H i else H' (i - n)
theorem hdV_append (H H' : Nat → Option Addr × Nat) (L R : List (List (List UInt8))) : hdV (catH H H' L.length) (L ++ R) = hdV H L ++ hdV H' R := by
  refine List.ext_getElem? fun i => ?_
  rcases Nat.lt_or_ge i L.length with h | h
  · rw [List.getElem?_append_left (by rw [hdV_length]; exact h), hdV_get _ h, hdV_get _ (by rw [List.length_append]; omega)]
    rw [show (L ++ R).getD i [] = L.getD i [] by rw [List.getD, List.getD, List.getElem?_append_left h]]
    unfold catH
    rw [if_pos h]
  · rw [List.getElem?_append_right (by rw [hdV_length]; exact h), hdV_length]
    rcases Nat.lt_or_ge (i - L.length) R.length with h2 | h2
    · rw [hdV_get _ h2, hdV_get _ (by rw [List.length_append]; omega)]
      rw [show (L ++ R).getD i [] = R.getD (i - L.length) [] by rw [List.getD, List.getD, List.getElem?_append_right h]]
      unfold catH
      rw [if_neg (by omega)]
    · rw [List.getElem?_eq_none (by rw [hdV_length, List.length_append]; omega), List.getElem?_eq_none (by rw [hdV_length]; exact h2)]
theorem RdSS.cat {w : World} {B : Nat} {A A1 A2 : Option Addr} {H H' : Nat → Option Addr × Nat} {L R : List (List (List UInt8))} (h1 : RdSS w B A1 H L) (h2 : RdSS w B A2 H' R) (ht : RdV w B A (hdV H L ++ hdV H' R)) : RdSS w B A (catH H H' L.length) (L ++ R) := by
  have key : ∀ i, i < L.length → (L ++ R).getD i [] = L.getD i [] ∧ catH H H' L.length i = H i := fun i h => ⟨by rw [List.getD, List.getD, List.getElem?_append_left h], if_pos h⟩
  have key2 : ∀ i, L.length ≤ i → (L ++ R).getD i [] = R.getD (i - L.length) [] ∧ catH H H' L.length i = H' (i - L.length) := fun i h => ⟨by rw [List.getD, List.getD, List.getElem?_append_right h], if_neg (by omega)⟩
  refine ⟨by rw [hdV_append]; exact ht, fun i hi => ?_, fun i hi => ?_⟩
  · rw [List.length_append] at hi
    rcases Nat.lt_or_ge i L.length with h | h
    · rw [(key i h).1, (key i h).2]; exact h1.rows i h
    · rw [(key2 i h).1, (key2 i h).2]; exact h2.rows _ (by omega)
  · rw [List.length_append] at hi
    rcases Nat.lt_or_ge i L.length with h | h
    · rw [(key i h).1]; exact h1.lens i h
    · rw [(key2 i h).1]; exact h2.lens _ (by omega)
theorem one_hdV (H : Nat → Option Addr × Nat) (L : List (List (List UInt8))) : ∀ u ∈ hdV H L, u.oneCell' = true := fun u hu => by
  obtain ⟨i, _, rfl⟩ := List.mem_map.1 hu
  rfl
/-- A volume is taken away. -/
theorem hdV_set (H : Nat → Option Addr × Nat) (V : List (List (List UInt8))) {p : Nat} (hp : p < V.length) : (hdV H V).set p (.slice none 0 0) = hdV (upd1 H p (none, 0)) (V.set p []) := by
  unfold hdV
  rw [range_set, List.length_set]
  refine range_congr fun i hi => ?_
  by_cases e : i = p
  · subst e
    rw [if_pos rfl, show upd1 H i (none, 0) i = (none, 0) from if_pos rfl, show (V.set i []).getD i [] = [] by rw [List.getD, List.getElem?_set, if_pos rfl, if_pos hp]; rfl]
    rfl
  · rw [if_neg e, show upd1 H p (none, 0) i = H i from if_neg e, show (V.set p []).getD i [] = V.getD i [] by rw [List.getD, List.getElem?_set, if_neg (fun h => e h.symm), List.getD]]
theorem set_getD_ne {V : List (List (List UInt8))} {p i : Nat} {v : List (List UInt8)} (h : p ≠ i) : (V.set p v).getD i [] = V.getD i [] := by rw [List.getD, List.getElem?_set, if_neg h, List.getD]
theorem set_getD_eq {V : List (List (List UInt8))} {p : Nat} {v : List (List UInt8)} (h : p < V.length) : (V.set p v).getD p [] = v := by rw [List.getD, List.getElem?_set, if_pos rfl, if_pos h]; rfl
theorem goneV_set (V : List (List (List UInt8))) (p N : Nat) : (goneV (V.set p []) N).length ≤ (goneV V N).length + 1 := by
  have h1 := filter_or (fun i => decide (((V.set p []).getD i []).length = 0)) (fun i => decide ((V.getD i []).length = 0)) (fun i => decide (i = p)) (List.range N) (fun i h => by
    by_cases e : i = p
    · exact .inr (decide_eq_true e)
    · rw [set_getD_ne (fun h => e h.symm)] at h
      exact .inl h)
  have h2 := filter_one N p
  unfold goneV
  omega
/-- What is left of volumes: each is as it was, or gone. -/
theorem dec_left {V all : List (List (List UInt8))} {N M r a : Nat} (hg : (goneV V N).length ≤ M) (hs : ∀ i, i < N → V.getD i [] = all.getD i [] ∨ V.getD i [] = []) (hr : Nought (wordL all N r a) M) : Dec N M (goneV V N) (wordL V N r a) (wordL all N r a) := by
  refine ⟨tab_length _ _, hr, ?_⟩
  have : unl (goneV V N) (wordL all N r a) (wordL V N r a) N = 0 := by
    unfold unl
    rw [List.length_eq_zero_iff, List.filter_eq_nil_iff]
    intro i hi h
    have hi := List.mem_range.1 hi
    simp only [decide_eq_true_eq] at h
    rcases hs i hi with h1 | h1
    · refine h.1 ?_
      unfold wordL
      rw [tab_getD _ _ _ hi, tab_getD _ _ _ hi]
      unfold symL
      rw [h1]
    · refine h.2 ?_
      unfold goneV
      exact List.mem_filter.2 ⟨List.mem_range.2 hi, by rw [h1]; rfl⟩
  rw [this]
  omega
theorem mendCode_ok {D R S M k : Int} {V : List (List (List UInt8))} (h1 : shapeB D R S M = true) (h2 : 1 ≤ k) (h3 : (V.length : Int) - M = k) (h4 : V.any (badM D S) = false) (h5 : V.length ≤ 96) : mendCode D R S M k V = 0 := by
  unfold mendCode
  rw [if_neg (by rw [h1, h4]; simp; omega), if_neg (by omega)]
theorem fine_reg {D S : Nat} {v : List (List UInt8)} (h : Reg D S v) : fineB D S v = true := by
  refine fineB_iff.2 ⟨by rw [h.1], fun r hr => ?_⟩
  obtain ⟨j, hj, rfl⟩ := List.getElem_of_mem hr
  have := h.2 j (by rw [← h.1]; exact hj)
  rw [List.getD, List.getElem?_eq_getElem hj] at this
  exact congrArg _ this
theorem any_no {p : List (List UInt8) → Bool} {V : List (List (List UInt8))} (h : ∀ i, i < V.length → p (V.getD i []) = false) : V.any p = false := by
  rw [Bool.eq_false_iff]
  intro hh
  obtain ⟨v, hv, hp⟩ := List.any_eq_true.1 hh
  obtain ⟨i, hi, rfl⟩ := List.getElem_of_mem hv
  have := h i hi
  rw [List.getD, List.getElem?_eq_getElem hi] at this
  rw [show V[i] = (some V[i]).getD [] from rfl, this] at hp
  cases hp
theorem badM_reg {D S : Nat} {v : List (List UInt8)} (h : Reg D S v ∨ v = []) : badM D S v = false := by
  unfold badM
  rcases h with h | h
  · rw [fine_reg h, Bool.not_true, Bool.and_false]
  · rw [h]; rfl
/-- Data volumes and their recovery volumes, where Recovery tells them. -/
theorem reg_all {D S M : Nat} {L : List (List (List UInt8))} (h : L.any (badR D S) = false) {i : Nat} (hi : i < L.length + M) : Reg D S ((L ++ recL D S M L).getD i []) := by
  rcases Nat.lt_or_ge i L.length with h1 | h1
  · rw [show (L ++ recL D S M L).getD i [] = L.getD i [] by rw [List.getD, List.getD, List.getElem?_append_left h1]]
    refine badR_no ?_
    refine Bool.eq_false_iff.2 fun hb => ?_
    rw [Bool.eq_false_iff] at h
    refine h (List.any_eq_true.2 ⟨L.getD i [], ?_, hb⟩)
    rw [List.getD, List.getElem?_eq_getElem h1]
    exact List.getElem_mem _
  · rw [show (L ++ recL D S M L).getD i [] = (recL D S M L).getD (i - L.length) [] by rw [List.getD, List.getD, List.getElem?_append_right h1]]
    unfold recL
    rw [tabL_get _ _ _ (by omega)]
    exact reg_tab 0 D S _ _
/-- Some volumes are as they were, the others gone. -/
structure Left (all V : List (List (List UInt8))) (HC HV : Nat → Option Addr × Nat) (N cnt : Nat) : Prop where
  len : V.length = N
  few : (goneV V N).length ≤ cnt
  each : ∀ i, i < N → (V.getD i [] = all.getD i [] ∧ HV i = HC i) ∨ (V.getD i [] = [] ∧ HV i = (none, 0))
theorem Left.take {all V : List (List (List UInt8))} {HC HV : Nat → Option Addr × Nat} {N cnt p : Nat} (h : Left all V HC HV N cnt) (hp : p < N) : Left all (V.set p []) HC (upd1 HV p (none, 0)) N (cnt + 1) := by
  refine ⟨by rw [List.length_set, h.len], by have := goneV_set V p N; have := h.few; omega, fun i hi => ?_⟩
  by_cases e : i = p
  · subst e
    exact .inr ⟨set_getD_eq (by rw [h.len]; exact hi), if_pos rfl⟩
  · rw [set_getD_ne (fun h => e h.symm), show upd1 HV p (none, 0) i = HV i from if_neg e]
    exact h.each i hi

theorem gone_none {all : List (List (List UInt8))} {d s N : Nat} (hd : 1 ≤ d) (hreg : ∀ i, i < N → Reg d s (all.getD i [])) : (goneV all N).length ≤ 0 := by
  unfold goneV
  rw [Nat.le_zero, List.length_eq_zero_iff, List.filter_eq_nil_iff]
  intro i hi h
  have h1 := (hreg i (List.mem_range.1 hi)).1
  have h2 := of_decide_eq_true h
  omega
theorem left_rd {wr : World} {B g N cnt c : Nat} {A : Option Addr} {all V : List (List (List UInt8))} {HC HV : Nat → Option Addr × Nat} (ho : OwnV 24 wr B (some ⟨g, 0, none⟩) N c (hdV HV V)) (RA : RdSS wr wr.heap.size A HC all) (hA : all.length = N) (lf : Left all V HC HV N cnt) : RdSS wr wr.heap.size (some ⟨g, 0, none⟩) HV V := by
  refine ⟨ho.rd, fun i hi => ?_, fun i hi => ?_⟩
  · rw [lf.len] at hi
    rcases lf.each i hi with h | h
    · rw [h.1, h.2]; exact RA.rows i (by rw [hA]; exact hi)
    · rw [h.1]; exact RdV.nil
  · rw [lf.len] at hi
    rcases lf.each i hi with h | h
    · rw [h.1]; exact RA.lens i (by rw [hA]; exact hi)
    · rw [h.1]; exact Nat.zero_le _
theorem left_is {d s m hh N n1 cnt : Nat} {R x : Int} {all V L' : List (List (List UInt8))} {HC HV : Nat → Option Addr × Nat} (h1 : shapeB d R s m = true) (hs : s = 2 * hh) (hd : 1 ≤ d) (hn1 : 1 ≤ n1) (hN : N = n1 + m) (h96 : N ≤ 96) (hA : all.length = N)
    (hreg : ∀ i, i < N → Reg d s (all.getD i [])) (hwr : ∀ r p, r < d → p < hh → Nought (wordL all N r (2 * p)) m) (lf : Left all V HC HV N cnt) (hc : cnt ≤ m) (hm : MendIs d R s m n1 V L' x) : L' = all ∧ x = 0 := by
  have e0 : mendCode d R s m n1 V = 0 := mendCode_ok h1 (by omega) (by rw [lf.len]; omega) (any_no fun i hi => badM_reg (by
    rw [lf.len] at hi
    rcases lf.each i hi with h | h
    · left; rw [h.1]; exact hreg i hi
    · right; exact h.1)) (by rw [lf.len]; omega)
  exact mend_is hm e0 hd hs lf.len hA hreg fun r p hr hp => dec_left (Nat.le_trans lf.few hc) (fun i hi => (lf.each i hi).imp And.left And.left) (hwr r p hr hp)
theorem OwnSS.catAll {w4 w6 : World} {B4 B6 n1 m c4 : Nat} {A1 A4 A6 : Option Addr} {c6 : Nat} {H H4 : Nat → Option Addr × Nat} {L R4 : List (List (List UInt8))} (hl : L.length = n1) (r1 : RdSS w4 w4.heap.size A1 H L) (o4 : OwnSS w4 B4 A4 m c4 H4 R4) (hb : Below w4.heap.size w4 w6) (h6 : OwnV 24 w6 B6 A6 (n1 + m) c6 (hdV H L ++ hdV H4 R4)) :
    OwnV 24 w6 B6 A6 (n1 + m) c6 (hdV (catH H H4 n1) (L ++ R4)) ∧ RdSS w6 w6.heap.size A6 (catH H H4 n1) (L ++ R4) := by
  subst hl
  exact ⟨by rw [hdV_append]; exact h6, RdSS.cat ((r1.below hb).more hb.size) ((o4.rd.below hb).more hb.size) h6.rd⟩
set_option maxRecDepth 100000 in
set_option maxHeartbeats 8000000 in
theorem any_walk (A1 A3 : Option Addr) (n1 n3 c1 c3 : Nat) (D R S M : Int) (H : Nat → Option Addr × Nat) (L : List (List (List UInt8))) (zs : List Int) (w : World) (hl : L.length = n1) (hrd : RdSS w w.heap.size A1 H L) (h3 : zs.length = n3) (hr3 : RdI w w.heap.size A3 zs) (hn : n1 ≤ 9223372036854775807) :
    Calls Try.prog 6 #[shV D R S M, .slice A1 n1 c1, .slice A3 n3 c3] w fun e w' => e = .returned (.bool true) ∧ Below w.heap.size w w' := by
  have HL := Lib.hid hl
  have HRD := Lib.hid hrd
  have H3 := Lib.hid h3
  have HR3 := Lib.hid hr3
  have HN := Lib.hid hn
  clear hl hrd h3 hr3 hn
  have SA := ShapeAt.new w D R S M
  have BA := balloc w (shO D R S M)
  unfold shO at SA BA
  unfold shV
  go_enter Try.func6, Try.ntmps6
  go_wp2_with fail
  obtain ⟨w1, hw1⟩ : ∃ w1, w1 = w.alloc (.cells #[.int .i64 D, .int .i64 R, .int .i64 S, .int .i64 M] 31) := ⟨_, rfl⟩
  have hs1 : w1.heap.size = w.heap.size + 1 := by rw [hw1]; simp
  rw [← hw1] at SA BA
  rw [← hw1]
  clear hw1
  have SH := Lib.hid SA
  have HB := Lib.hid BA
  clear SA BA
  refine (works_any _).mono ?_
  rintro e w2 ⟨rfl, hb2⟩
  replace SH := Lib.hid (SH.out.below (by omega) hb2)
  replace HB := Lib.hid (bstep HB.out (Nat.le_refl _) hb2)
  have hs2 := hb2.size
  clear hb2
  have c0 := SH.out.d
  have c4 := SH.out.r
  have c2 := SH.out.s
  have c5 := SH.out.m
  go_wp2_with fail
  refine (large_any A1 n1 c1 D R S M H L w2 HL.out ((HRD.out.below HB.out).more HB.out.size) HN.out).mono ?_
  rintro e w3 ⟨q, rfl, hb3, hq⟩
  replace SH := Lib.hid (SH.out.below (by omega) hb3)
  replace HB := Lib.hid (bstep HB.out (Nat.le_refl _) hb3)
  have hs3 := hb3.size
  clear hb3 c0 c4 c2 c5
  cases q with
  | true =>
    go_wp2_with fail
    refine (works_any _).mono ?_
    rintro e w4 ⟨rfl, hb4⟩
    go_wp2_with fail
    go_ret
    exact ⟨rfl, bstep HB.out (Nat.le_refl _) hb4⟩
  | false =>
    have hn200 := hq rfl
    clear hq
    cases z2 : decide ((200 : Int) < (n3 : Int)) with
    | true =>
      go_wp2_with fail
      refine (works_any _).mono ?_
      rintro e w4 ⟨rfl, hb4⟩
      go_wp2_with fail
      go_ret
      exact ⟨rfl, bstep HB.out (Nat.le_refl _) hb4⟩
    | false =>
      have hn3 : n3 ≤ 200 := by have := of_decide_eq_false z2; omega
      have c0 := SH.out.d
      have c4 := SH.out.r
      have c2 := SH.out.s
      have c5 := SH.out.m
      go_wp2_with fail
      refine (rec_any A1 n1 c1 D R S M H L w3 HL.out ((HRD.out.below HB.out).more HB.out.size) (by omega)).mono ?_
      rintro e w4 ⟨A4, n4, c4', H4, rfl, ho4, hb4⟩
      replace SH := Lib.hid (SH.out.below (by omega) hb4)
      have HBW := Lib.hid HB.out
      replace HB := Lib.hid (bstep HB.out (Nat.le_refl _) hb4)
      have hs4 := hb4.size
      clear hb4 c0 c4 c2 c5
      by_cases hcode : recCode D R S M L = 0
      · obtain ⟨h1, h2, h3, h4⟩ := recCode_zero hcode
        obtain ⟨d, s, m, hh, rfl, rfl, rfl, hs, hd1, hd2, hsz, hm2, hh1⟩ := shape_nat h1
        have hz : recVols (d : Int) R (s : Int) (m : Int) L = recL d s m L := by
          unfold recVols
          rw [if_pos hcode]
          rfl
        rw [hz] at ho4
        obtain rfl : m = n4 := by rw [← ho4.len, recL_length]
        rw [hcode]
        rw [HL.out] at h2 h4
        have hn1p : 1 ≤ n1 := h2
        have h96 : n1 + m ≤ 96 := by omega
        obtain ⟨ALL, hALL⟩ : ∃ X, X = L ++ recL d s m L := ⟨_, rfl⟩
        have HAL0 : ALL.length = n1 + m := by rw [hALL, List.length_append, recL_length, HL.out]
        have HREG0 : ∀ i, i < n1 + m → Reg d s (ALL.getD i []) := fun i hi => by
          rw [hALL]
          exact reg_all h3 (by rw [HL.out]; exact hi)
        have HWR0 : ∀ r p, r < d → p < hh → Nought (wordL ALL (n1 + m) r (2 * p)) m := fun r p hr hp => by
          rw [hALL]
          exact word_right HL.out hd1 hr hp hs
        have HALLE := Lib.hid hALL
        have HH1 := Lib.hid h1
        have HS2 := Lib.hid hs
        have HR1 := Lib.hid ((HRD.out.below HB.out).more HB.out.size)
        have HO4 := Lib.hid ho4
        have HSW := Lib.hid HB.out.size
        clear hcode hz h2 h4 h3 h1 hALL hs ho4 hn200
        generalize recL d s m L = R4 at HO4 HALLE
        go_wp2_with (first
          | (refine wpList_extV strs_el _ rfl (.tmp 40) (.tmp 41) rfl w4.heap.size _ 0 _ [] rfl (OwnV.lit w4 w4.heap.size [] _ (Nat.le_refl _) (by decide) rfl) A1 n1 c1 w4.heap.size (hdV H L) (one_hdV H L) rfl (by rw [hdV_length]; exact HL.out) (HR1.out.top.below (balloc w4 _)) (by omega) (by simp) ?_; intro A5 c5 w5 hown5 hb5 hg5; simp only [Nat.zero_add, List.nil_append] at hown5; rw [Nat.zero_add]; replace hb5 := (balloc w4 _).trans hb5)
          | (refine wpList_extV strs_el _ rfl (.tmp 42) (.tmp 43) rfl w4.heap.size _ n1 _ _ rfl hown5 A4 m c4' w4.heap.size (hdV H4 R4) (one_hdV H4 R4) rfl (by rw [hdV_length]; exact HO4.out.len) (HO4.out.rd.top.below hb5) (by omega) hb5.size ?_; intro A6 c6 w6 hown6 hb6 hg6; replace hb6 := hb5.trans hb6; obtain ⟨hown6, hrd6⟩ := OwnSS.catAll HL.out HR1.out HO4.out hb6 hown6; rw [← HALLE.out] at hown6 hrd6; generalize hN1 : n1 + m = N at hown6 HAL0 HREG0 HWR0 h96 ⊢; have HN1 := Lib.hid hN1.symm; have hN96 : N ≤ 96 := h96; clear hN1 h96)
          | (refine wpList_extV strs_el _ rfl (.tmp 45) (.tmp 46) rfl w6.heap.size _ 0 _ [] rfl (OwnV.lit w6 w6.heap.size [] _ (Nat.le_refl _) (by decide) rfl) A6 N c6 w6.heap.size (hdV (catH H H4 n1) ALL) (one_hdV _ _) rfl (by rw [hdV_length]; exact HAL0) (hrd6.top.below (balloc w6 _)) (by omega) (by simp) ?_; intro A7 c7 w7 hown7 hb7 hg7; simp only [Nat.zero_add, List.nil_append] at hown7; rw [Nat.zero_add]; replace hb7 := (balloc w6 _).trans hb7))
        have hN1 : 1 ≤ N := by have := HN1.out; omega
        obtain ⟨g, rfl, hg1, hg2⟩ := hown7.form hN1
        generalize catH H H4 n1 = HC at hown6 hrd6 hown7
        replace HB := Lib.hid (bstep (bstep HB.out (Nat.le_refl _) hb6) (Nat.le_refl _) hb7)
        replace SH := Lib.hid ((SH.out.below (by omega) hb6).below (by have := hb6.size; omega) hb7)
        have HRA7 := Lib.hid (hrd6.below hb7)
        have HAL := Lib.hid HAL0
        have HREG := Lib.hid HREG0
        have HWR := Lib.hid HWR0
        have HO7 := Lib.hid hown7
        have HG := Lib.hid hg1
        have hs6 := hb6.size
        have hs7 := hb7.size
        have hcap7 := hown7.cap
        clear hown5 hb5 hg5 hown6 hb6 hg6 hrd6 hown7 hb7 hg7 HAL0 HREG0 HWR0 hg2 HO4 HR1 HBW hcap7
        go_loopw [11, 12] (fun v i wr => ∃ (cnt j : Nat) (V : List (List (List UInt8))) (HV : Nat → Option Addr × Nat), j ≤ n3 ∧ cnt ≤ m ∧ i = .int .i64 j ∧ v = .int .i64 cnt ∧ Hid (Left ALL V HC HV N cnt) ∧ OwnV 24 wr w6.heap.size (some ⟨g, 0, none⟩) N c7 (hdV HV V) ∧ Below w6.heap.size w7 wr) (fun _ i _ => n3 - (intOf i).toNat)
        case atStart => exact ⟨0, 0, ALL, HC, Nat.zero_le _, Nat.zero_le _, rfl, rfl, Lib.hid ⟨HAL.out, gone_none hd1 HREG.out, fun i hi => .inl ⟨rfl, rfl⟩⟩, HO7.out, Below.refl _ _⟩
        case round =>
          obtain ⟨cnt, j, V, HV, hj, hcm8, rfl, rfl, HLF, hown, hbel⟩ := hrel
          have HBR := Lib.hid (HB.out.trans (hbel.mono (by omega)))
          have SHR := Lib.hid (SH.out.below (by omega) hbel)
          have HRA := Lib.hid (show RdSS wr wr.heap.size A6 HC ALL from (HRA7.out.below hbel).more (Nat.le_trans hs7 hbel.size))
          have HO := Lib.hid hown
          have HBL := Lib.hid hbel
          have hszr := hbel.size
          have c0 := SHR.out.d
          have c4 := SHR.out.r
          have c2 := SHR.out.s
          have c5 := SHR.out.m
          clear hown hbel
          by_cases hjm : j < n3
          · obtain ⟨bz, oz, rfl, hbz, hcz⟩ := (HR3.out.below HBR.out) (by rw [H3.out]; omega)
            have c1z := hcz j (by rw [H3.out]; exact hjm)
            clear hcz
            by_cases hcmm : cnt < m
            · generalize zs[j]?.getD 0 = z at c1z
              have e9 := zslot z hN1 (by omega)
              have hpn := zmod_lt z hN1
              generalize zmod z N = p at e9 hpn
              have hpl : p < V.length := by rw [HLF.out.len]; exact hpn
              have c6x := HO.out.cell (hdV_get HV hpl)
              have f6 := HO.out.frozen p
              have hcp := HO.out.cap
              have q1 : (0 : Int) ≤ (p : Int) := by omega
              have q2 : (p : Int) < (N : Int) := by omega
              have q3 : (0 : Int) ≤ (j : Int) := by omega
              have q4 : (j : Int) < (n3 : Int) := by omega
              have HOS := Lib.hid (hdV_set HV V hpl ▸ HO.out.store p (.slice none 0 0))
              have HLT := Lib.hid (HLF.out.take hpn)
              have HVJ := Lib.hid (show wrap64 ((j : Int) + 1) = (j : Int) + 1 from IntWalk.wrap64_in _ ⟨by omega, by omega⟩)
              have HVC := Lib.hid (show wrap64 ((cnt : Int) + 1) = (cnt : Int) + 1 from IntWalk.wrap64_in _ ⟨by omega, by omega⟩)
              generalize (HV p).1 = hp1 at c6x
              generalize (HV p).2 = hp2 at c6x
              clear hpl
              by_cases hl0 : (V.getD p []).length = 0
              · rw [hl0] at c6x
                clear hl0
                go_wp2_with fail
                go_roundw
                case rel => exact ⟨cnt, j + 1, V, HV, by omega, hcm8, by go_num, rfl, HLF, HO.out, HBL.out⟩
                case measure => simp only [intOf]; omega
              · have hl1 : 0 < (V.getD p []).length := by omega
                clear hl0
                generalize (V.getD p []).length = l at c6x hl1
                go_wp2_with fail
                go_roundw
                case rel => exact ⟨cnt + 1, j + 1, V.set p [], upd1 HV p (none, 0), by omega, by omega, by go_num, by go_num, HLT, HOS.out, HBL.out.setCell (p := ⟨g, p, none⟩) HG.out _⟩
                case measure => simp only [intOf]; omega
            · clear c1z
              go_wp2_with fail
              refine (crossMend_any (some ⟨g, 0, none⟩) N c7 (d : Int) R (s : Int) (m : Int) (n1 : Int) HV V wr HLF.out.len (left_rd HO.out HRA.out HAL.out HLF.out) (by omega)).mono ?_
              rintro e w8 ⟨A8, n8, c8, H8, L8, x8, rfl, ho8, hm8, hb8⟩
              obtain ⟨hL8, hx8⟩ := left_is HH1.out HS2.out hd1 hn1p HN1.out hN96 HAL.out HREG.out HWR.out HLF.out hcm8 hm8
              rw [hL8] at ho8
              subst hx8
              obtain rfl : n8 = N := by rw [← ho8.len, HAL.out]
              have HRA8 := Lib.hid ((HRA.out.below hb8).more hb8.size)
              have HRD8 := Lib.hid ho8.rd
              have HBR8 := Lib.hid (bstep HBR.out (Nat.le_refl _) hb8)
              have HLN := Lib.hid (show ∀ i, i < n8 → (ALL.getD i []).length ≤ 1000000 from fun i hi => by rw [(HREG.out i hi).1]; omega)
              have hs8 := hb8.size
              clear ho8 hm8 hb8 hL8
              go_wp2_with fail
              refine (same_eq A8 A6 n8 c8 n8 c6 _ _ H8 HC ALL ALL w8 HAL.out HAL.out HRD8.out HRA8.out (Nat.le_refl _) (Nat.le_refl _) (by omega) HLN.out).mono ?_
              rintro e w9 ⟨rfl, hb9⟩
              rw [show decide (ALL = ALL) = true from decide_eq_true rfl]
              go_wp2_with fail
              go_ret
              exact ⟨rfl, bstep HBR8.out (Nat.le_refl _) hb9⟩
          · skip
            go_wp2_with fail
            refine (crossMend_any (some ⟨g, 0, none⟩) N c7 (d : Int) R (s : Int) (m : Int) (n1 : Int) HV V wr HLF.out.len (left_rd HO.out HRA.out HAL.out HLF.out) (by omega)).mono ?_
            rintro e w8 ⟨A8, n8, c8, H8, L8, x8, rfl, ho8, hm8, hb8⟩
            obtain ⟨hL8, hx8⟩ := left_is HH1.out HS2.out hd1 hn1p HN1.out hN96 HAL.out HREG.out HWR.out HLF.out hcm8 hm8
            rw [hL8] at ho8
            subst hx8
            obtain rfl : n8 = N := by rw [← ho8.len, HAL.out]
            have HRA8 := Lib.hid ((HRA.out.below hb8).more hb8.size)
            have HRD8 := Lib.hid ho8.rd
            have HBR8 := Lib.hid (bstep HBR.out (Nat.le_refl _) hb8)
            have HLN := Lib.hid (show ∀ i, i < n8 → (ALL.getD i []).length ≤ 1000000 from fun i hi => by rw [(HREG.out i hi).1]; omega)
            have hs8 := hb8.size
            clear ho8 hm8 hb8 hL8
            go_wp2_with fail
            refine (same_eq A8 A6 n8 c8 n8 c6 _ _ H8 HC ALL ALL w8 HAL.out HAL.out HRD8.out HRA8.out (Nat.le_refl _) (Nat.le_refl _) (by omega) HLN.out).mono ?_
            rintro e w9 ⟨rfl, hb9⟩
            rw [show decide (ALL = ALL) = true from decide_eq_true rfl]
            go_wp2_with fail
            go_ret
            exact ⟨rfl, bstep HBR8.out (Nat.le_refl _) hb9⟩
      · have hz := ho4.len
        unfold recVols at hz
        rw [if_neg hcode] at hz
        obtain rfl : n4 = 0 := hz.symm
        have t1 : (recCode D R S M L != 0) = true := by simpa using hcode
        clear ho4 hcode hz
        generalize recCode D R S M L = code at t1
        go_wp2_with fail
        go_ret
        exact ⟨rfl, HB.out⟩
end Go.Proofs.Ythejbmjleohlfaa
