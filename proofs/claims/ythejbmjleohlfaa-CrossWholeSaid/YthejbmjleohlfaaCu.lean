/- The walk of the statement CrossSums: recovery volumes of sums are the sums of the recovery volumes. -/
import Derived.Test.YthejbmjleohlfaaCt
import Derived.Test.YthejbmjleohlfaaCq
import Derived.Test.YthejbmjleohlfaaTk
namespace Go.Proofs.Ythejbmjleohlfaa
set_option linter.unusedVariables false
set_option linter.unusedSimpArgs false
open Go.RowKit Go.Shelf

theorem recVols_nat {d s m : Nat} {R : Int} {L : List (List (List UInt8))} (h : recCode d R s m L = 0) : recVols (d : Int) R (s : Int) (m : Int) L = recL d s m L := by
  unfold recVols
  rw [if_pos h]
  rfl
theorem reg_of {d s : Nat} {L : List (List (List UInt8))} (h : L.any (badR d s) = false) {i : Nat} (hi : i < L.length) : Reg d s (L.getD i []) := by
  refine badR_no ?_
  refine Bool.eq_false_iff.2 fun hb => ?_
  rw [Bool.eq_false_iff] at h
  refine h (List.any_eq_true.2 ⟨L.getD i [], ?_, hb⟩)
  rw [List.getD, List.getElem?_eq_getElem hi]
  exact List.getElem_mem _
theorem reg_rec (d s m : Nat) (L : List (List (List UInt8))) (i : Nat) (hi : i < m) : Reg d s ((recL d s m L).getD i []) := by
  unfold recL
  rw [tabL_get _ _ _ hi]
  exact reg_tab 0 d s _ _

set_option maxRecDepth 100000 in
set_option maxHeartbeats 8000000 in
theorem sumslaw_walk (A1 A2 : Option Addr) (n1 n2 c1 c2 : Nat) (D R S M : Int) (H1 H2 : Nat → Option Addr × Nat) (L K : List (List (List UInt8))) (w : World) (hl : L.length = n1) (hrd : RdSS w w.heap.size A1 H1 L) (hl2 : K.length = n2) (hrd2 : RdSS w w.heap.size A2 H2 K) (hn : n1 ≤ 9223372036854775807) (hn2 : n2 ≤ 9223372036854775807) :
    Calls Try.prog 7 #[shV D R S M, .slice A1 n1 c1, .slice A2 n2 c2] w fun e w' => e = .returned (.bool true) ∧ Below w.heap.size w w' := by
  have HL := Lib.hid hl
  have RA := Lib.hid hrd
  have HK := Lib.hid hl2
  have RB := Lib.hid hrd2
  have HN := Lib.hid hn
  have HN2 := Lib.hid hn2
  clear hl hrd hl2 hrd2 hn hn2
  have SA := ShapeAt.new w D R S M
  have BA := balloc w (shO D R S M)
  unfold shO at SA BA
  unfold shV
  go_enter Try.func7, Try.ntmps7
  go_wp2_with fail
  obtain ⟨w1, hw1⟩ : ∃ w1, w1 = w.alloc (.cells #[.int .i64 D, .int .i64 R, .int .i64 S, .int .i64 M] 31) := ⟨_, rfl⟩
  have hs1 : w1.heap.size = w.heap.size + 1 := by rw [hw1]; simp
  rw [← hw1] at SA BA
  rw [← hw1]
  clear hw1
  have SH := Lib.hid SA
  have HB := Lib.hid BA
  replace RA := Lib.hid ((RA.out.below BA).more BA.size)
  replace RB := Lib.hid ((RB.out.below BA).more BA.size)
  clear SA BA
  refine (works_any _).mono ?_
  rintro e w2 ⟨rfl, hb2⟩
  replace SH := Lib.hid (SH.out.below (by omega) hb2)
  replace HB := Lib.hid (bstep HB.out (Nat.le_refl _) hb2)
  replace RA := Lib.hid ((RA.out.below hb2).more hb2.size)
  replace RB := Lib.hid ((RB.out.below hb2).more hb2.size)
  have hs2 := hb2.size
  clear hb2 
  have y0 := SH.out.d
  have y1 := SH.out.r
  have y2 := SH.out.s
  have y3 := SH.out.m
  go_wp2_with fail
  refine (large_any A1 n1 c1 D R S M H1 L _ HL.out RA.out HN.out).mono ?_
  rintro e w3 ⟨q1, rfl, hb3, hq1⟩
  replace SH := Lib.hid (SH.out.below (by omega) hb3)
  replace HB := Lib.hid (bstep HB.out (Nat.le_refl _) hb3)
  replace RA := Lib.hid ((RA.out.below hb3).more hb3.size)
  replace RB := Lib.hid ((RB.out.below hb3).more hb3.size)
  have hs3 := hb3.size
  clear hb3 
  clear y0 y1 y2 y3
  cases q1 with
  | true =>
    go_wp2_with fail
    refine (works_any _).mono ?_
    rintro e wz ⟨rfl, hbz⟩
    go_wp2_with fail
    go_ret
    exact ⟨rfl, bstep HB.out (Nat.le_refl _) hbz⟩
  | false =>
    have hn200 := hq1 rfl
    clear hq1
    have y0 := SH.out.d
    have y1 := SH.out.r
    have y2 := SH.out.s
    have y3 := SH.out.m
    go_wp2_with fail
    refine (large_any A2 n2 c2 D R S M H2 K _ HK.out RB.out HN2.out).mono ?_
    rintro e w4 ⟨q2, rfl, hb4, hq2⟩
    replace SH := Lib.hid (SH.out.below (by omega) hb4)
    replace HB := Lib.hid (bstep HB.out (Nat.le_refl _) hb4)
    replace RA := Lib.hid ((RA.out.below hb4).more hb4.size)
    replace RB := Lib.hid ((RB.out.below hb4).more hb4.size)
    have hs4 := hb4.size
    clear hb4 
    clear y0 y1 y2 y3
    cases q2 with
    | true =>
      go_wp2_with fail
      refine (works_any _).mono ?_
      rintro e wz ⟨rfl, hbz⟩
      go_wp2_with fail
      go_ret
      exact ⟨rfl, bstep HB.out (Nat.le_refl _) hbz⟩
    | false =>
      have hm200 := hq2 rfl
      clear hq2
      by_cases hnn : n1 = n2
      · subst hnn
        have t0 : ((n1 : Int) != (n1 : Int)) = false := by simp
        have y0 := SH.out.d
        have y1 := SH.out.r
        have y2 := SH.out.s
        have y3 := SH.out.m
        go_wp2_with fail
        refine (rec_any A1 n1 c1 D R S M H1 L _ HL.out RA.out (by omega)).mono ?_
        rintro e w5 ⟨A4, n4, c4', H4, rfl, ho4, hb5⟩
        have RX := Lib.hid ho4.rd
        have HX := Lib.hid ho4.len
        clear ho4
        replace SH := Lib.hid (SH.out.below (by omega) hb5)
        replace HB := Lib.hid (bstep HB.out (Nat.le_refl _) hb5)
        replace RA := Lib.hid ((RA.out.below hb5).more hb5.size)
        replace RB := Lib.hid ((RB.out.below hb5).more hb5.size)
        have hs5 := hb5.size
        clear hb5 
        clear y0 y1 y2 y3
        have y0 := SH.out.d
        have y1 := SH.out.r
        have y2 := SH.out.s
        have y3 := SH.out.m
        go_wp2_with fail
        refine (rec_any A2 n1 c2 D R S M H2 K _ HK.out RB.out (by omega)).mono ?_
        rintro e w6 ⟨A5, n5, c5', H5, rfl, ho5, hb6⟩
        have RY := Lib.hid ho5.rd
        have HY := Lib.hid ho5.len
        clear ho5
        replace SH := Lib.hid (SH.out.below (by omega) hb6)
        replace HB := Lib.hid (bstep HB.out (Nat.le_refl _) hb6)
        replace RA := Lib.hid ((RA.out.below hb6).more hb6.size)
        replace RB := Lib.hid ((RB.out.below hb6).more hb6.size)
        replace RX := Lib.hid ((RX.out.below hb6).more hb6.size)
        have hs6 := hb6.size
        clear hb6 
        clear y0 y1 y2 y3
        by_cases hcode : recCode D R S M L = 0
        · by_cases hcode2 : recCode D R S M K = 0
          · obtain ⟨h1, h2, h3, h4⟩ := recCode_zero hcode
            obtain ⟨_, _, k3, _⟩ := recCode_zero hcode2
            obtain ⟨d, s, m, hh, rfl, rfl, rfl, hs, hd1, hd2, hsz, hm2, hh1⟩ := shape_nat h1
            have HS1 := Lib.hid (recCode_sum (K := K) rfl rfl hcode (fun i hi => reg_of h3 hi))
            have HS2 := Lib.hid (recCode_sum (K := L) rfl rfl hcode (fun i hi => reg_of h3 hi))
            have HG1 : ∀ i, i < n1 → Reg d s (L.getD i []) := fun i hi => reg_of h3 (by rw [HL.out]; exact hi)
            have HG2 : ∀ i, i < n1 → Reg d s (K.getD i []) := fun i hi => reg_of k3 (by rw [HK.out]; exact hi)
            rw [HL.out] at h4
            have HZ := Lib.hid ((recVols_nat HS1.out).trans (rec_sum HL.out HK.out HG1 HG2 hs (show n1 + m ≤ 255 by omega)))
            have HZ2 := Lib.hid ((recVols_nat HS2.out).trans (rec_sum HL.out HL.out HG1 HG1 hs (show n1 + m ≤ 255 by omega)))
            rw [recVols_nat hcode] at RX HX
            rw [recVols_nat hcode2] at RY HY
            obtain rfl : m = n4 := by rw [← HX.out, recL_length]
            obtain rfl : m = n5 := by rw [← HY.out, recL_length]
            rw [hcode, hcode2]
            have HGX := Lib.hid (reg_rec d s m L)
            have HGY := Lib.hid (reg_rec d s m K)
            have HGA := Lib.hid HG1
            have HGB := Lib.hid HG2
            have HSL := Lib.hid (show (sumL L K).length = n1 by rw [sumL_length]; exact HL.out)
            have HSL2 := Lib.hid (show (sumL L L).length = n1 by rw [sumL_length]; exact HL.out)
            have HLZ := Lib.hid (fun (X Y : List (List (List UInt8))) (hX : X.length = m) (hg : ∀ i, i < m → Reg d s (X.getD i [])) => show ∀ i, i < m → ((sumL X Y).getD i []).length ≤ 1000000 from fun i hi => by rw [sumL_get (by rw [hX]; exact hi), sumV_length, (hg i hi).1]; omega)
            clear hcode hcode2 h1 h2 h3 h4 k3 HG1 HG2 hs
            generalize recL d s m L = X at RX HX HGX HZ HZ2
            generalize recL d s m K = Y at RY HY HGY HZ
            generalize hZL : recVols (d : Int) R (s : Int) (m : Int) (sumL L K) = ZL at HZ
            generalize hZL2 : recVols (d : Int) R (s : Int) (m : Int) (sumL L L) = ZL2 at HZ2
            have HZL := Lib.hid hZL
            have HZL2 := Lib.hid hZL2
            clear hZL hZL2
            have y0 := SH.out.d
            have y1 := SH.out.r
            have y2 := SH.out.s
            have y3 := SH.out.m
            go_wp2_with fail
            clear y0 y1 y2 y3
            refine wp_region_held_drew (S := fun w' => Below w6.heap.size w6 w') (by kernel_rfl) (Below.refl _ _).drew (fun hHeld => ?_)
            refine take_in (v := ?_) 54 0 rfl rfl (by kernel_rfl) (by kernel_rfl) (by kernel_rfl) (fun _ _ _ h => h) (by rfl) ?_ (by assumption) ?_
            rotate_left 1
            · (intro w hSw; have SHW := SH.out.below (by omega) hSw; have y0 := SHW.d; have y1 := SHW.r; have y2 := SHW.s; have y3 := SHW.m; go_simp; (try with_reducible rfl))
            (try simp only [List.setIfInBounds_toArray, List.set_cons_zero, List.set_cons_succ])
            refine take_in (v := ?_) 55 1 rfl rfl (by kernel_rfl) (by kernel_rfl) (by kernel_rfl) (fun _ _ _ h => h) (by rfl) ?_ (by assumption) ?_
            rotate_left 1
            · (intro w hSw; go_simp; (try with_reducible rfl))
            (try simp only [List.setIfInBounds_toArray, List.set_cons_zero, List.set_cons_succ])
            refine take_in (v := ?_) 56 2 rfl rfl (by kernel_rfl) (by kernel_rfl) (by kernel_rfl) (fun _ _ _ h => h) (by rfl) ?_ (by assumption) ?_
            rotate_left 1
            · (intro w hSw; go_simp; (try with_reducible rfl))
            (try simp only [List.setIfInBounds_toArray, List.set_cons_zero, List.set_cons_succ])
            refine wpAnyH_ready (rs := [3]) (by kernel_rfl) (by simp) ?_
            refine AllReadyH.cons rfl (fun KK hK => ?_) AllReadyH.nil
            go_simp
            refine (sums_any A1 A2 n1 c1 c2 d s H1 H2 L K _ HL.out HK.out ((RA.out.below hHeld).more hHeld.size) ((RB.out.below hHeld).more hHeld.size) HGA.out HGB.out (by omega) (by omega) (by omega)).mono ?_
            rintro e wC1 ⟨AS1, cS1, HSH1, rfl, hoS1, hbC⟩
            go_wp2_with fail
            refine hK.out _ _ (bstep hHeld (Nat.le_refl _) hbC) (fun hHeld => ?_)
            clear hK KK
            (try simp only [List.setIfInBounds_toArray, List.set_cons_zero, List.set_cons_succ])
            refine wpAnyH_ready (rs := [4]) (by kernel_rfl) (by simp) ?_
            refine AllReadyH.cons rfl (fun KK hK => ?_) AllReadyH.nil
            go_simp
            refine (rec_any AS1 n1 cS1 d R s m HSH1 (sumL L K) _ HSL.out hoS1.rd (by omega)).mono ?_
            rintro e wD1 ⟨AN1, nN1, cN1, HN1', rfl, hoN1, hbD⟩
            rw [HS1.out]
            go_wp2_with fail
            refine hK.out _ _ (bstep hHeld (Nat.le_refl _) hbD) (fun hHeld => ?_)
            clear hK KK
            (try simp only [List.setIfInBounds_toArray, List.set_cons_zero, List.set_cons_succ])
            refine take_in (v := ?_) 53 5 rfl rfl (by kernel_rfl) (by kernel_rfl) (by kernel_rfl) (fun _ _ _ h => h) (by rfl) ?_ (by assumption) ?_
            rotate_left 1
            · (intro w hSw; go_simp; (try with_reducible rfl))
            (try simp only [List.setIfInBounds_toArray, List.set_cons_zero, List.set_cons_succ])
            refine take_in (v := ?_) 59 6 rfl rfl (by kernel_rfl) (by kernel_rfl) (by kernel_rfl) (fun _ _ _ h => h) (by rfl) ?_ (by assumption) ?_
            rotate_left 1
            · (intro w hSw; go_simp; (try with_reducible rfl))
            (try simp only [List.setIfInBounds_toArray, List.set_cons_zero, List.set_cons_succ])
            refine take_in (v := ?_) 60 7 rfl rfl (by kernel_rfl) (by kernel_rfl) (by kernel_rfl) (fun _ _ _ h => h) (by rfl) ?_ (by assumption) ?_
            rotate_left 1
            · (intro w hSw; go_simp; (try with_reducible rfl))
            (try simp only [List.setIfInBounds_toArray, List.set_cons_zero, List.set_cons_succ])
            refine take_in (v := ?_) 11 8 rfl rfl (by kernel_rfl) (by kernel_rfl) (by kernel_rfl) (fun _ _ _ h => h) (by rfl) ?_ (by assumption) ?_
            rotate_left 1
            · (intro w hSw; go_simp; (try with_reducible rfl))
            (try simp only [List.setIfInBounds_toArray, List.set_cons_zero, List.set_cons_succ])
            refine take_in (v := ?_) 12 9 rfl rfl (by kernel_rfl) (by kernel_rfl) (by kernel_rfl) (fun _ _ _ h => h) (by rfl) ?_ (by assumption) ?_
            rotate_left 1
            · (intro w hSw; go_simp; (try with_reducible rfl))
            (try simp only [List.setIfInBounds_toArray, List.set_cons_zero, List.set_cons_succ])
            refine wpAnyH_done (by kernel_rfl) ?_ _
            rw [HZL.out, HZ.out] at hoN1
            obtain rfl : m = nN1 := by rw [← hoN1.len, sumL_length, HX.out]
            have RN1 := Lib.hid hoN1.rd
            have HLN1 := Lib.hid hoN1.len
            have hbN := hHeld
            replace SH := Lib.hid (SH.out.below (by omega) hbN)
            replace HB := Lib.hid (bstep HB.out (Nat.le_refl _) hbN)
            replace RA := Lib.hid ((RA.out.below hbN).more hbN.size)
            replace RB := Lib.hid ((RB.out.below hbN).more hbN.size)
            replace RX := Lib.hid ((RX.out.below hbN).more hbN.size)
            replace RY := Lib.hid ((RY.out.below hbN).more hbN.size)
            have hsD1 := hbN.size
            clear hoN1 hoS1 hbN hHeld hbC hbD
            have y0 := SH.out.d
            have y1 := SH.out.r
            have y2 := SH.out.s
            have y3 := SH.out.m
            go_wp2_with fail
            clear y0 y1 y2 y3
            refine wp_region_held_drew (S := fun w' => Below wD1.heap.size wD1 w') (by kernel_rfl) (Below.refl _ _).drew (fun hHeld => ?_)
            refine take_in (v := ?_) 62 0 rfl rfl (by kernel_rfl) (by kernel_rfl) (by kernel_rfl) (fun _ _ _ h => h) (by rfl) ?_ (by assumption) ?_
            rotate_left 1
            · (intro w hSw; have SHW := SH.out.below (by omega) hSw; have y0 := SHW.d; have y1 := SHW.r; have y2 := SHW.s; have y3 := SHW.m; go_simp; (try with_reducible rfl))
            (try simp only [List.setIfInBounds_toArray, List.set_cons_zero, List.set_cons_succ])
            refine take_in (v := ?_) 63 1 rfl rfl (by kernel_rfl) (by kernel_rfl) (by kernel_rfl) (fun _ _ _ h => h) (by rfl) ?_ (by assumption) ?_
            rotate_left 1
            · (intro w hSw; go_simp; (try with_reducible rfl))
            (try simp only [List.setIfInBounds_toArray, List.set_cons_zero, List.set_cons_succ])
            refine take_in (v := ?_) 64 2 rfl rfl (by kernel_rfl) (by kernel_rfl) (by kernel_rfl) (fun _ _ _ h => h) (by rfl) ?_ (by assumption) ?_
            rotate_left 1
            · (intro w hSw; go_simp; (try with_reducible rfl))
            (try simp only [List.setIfInBounds_toArray, List.set_cons_zero, List.set_cons_succ])
            refine wpAnyH_ready (rs := [3]) (by kernel_rfl) (by simp) ?_
            refine AllReadyH.cons rfl (fun KK hK => ?_) AllReadyH.nil
            go_simp
            refine (sums_any A1 A1 n1 c1 c1 d s H1 H1 L L _ HL.out HL.out ((RA.out.below hHeld).more hHeld.size) ((RA.out.below hHeld).more hHeld.size) HGA.out HGA.out (by omega) (by omega) (by omega)).mono ?_
            rintro e wC2 ⟨AS2, cS2, HSH2, rfl, hoS2, hbC⟩
            go_wp2_with fail
            refine hK.out _ _ (bstep hHeld (Nat.le_refl _) hbC) (fun hHeld => ?_)
            clear hK KK
            (try simp only [List.setIfInBounds_toArray, List.set_cons_zero, List.set_cons_succ])
            refine wpAnyH_ready (rs := [4]) (by kernel_rfl) (by simp) ?_
            refine AllReadyH.cons rfl (fun KK hK => ?_) AllReadyH.nil
            go_simp
            refine (rec_any AS2 n1 cS2 d R s m HSH2 (sumL L L) _ HSL2.out hoS2.rd (by omega)).mono ?_
            rintro e wD2 ⟨AN2, nN2, cN2, HN2', rfl, hoN2, hbD⟩
            rw [HS2.out]
            go_wp2_with fail
            refine hK.out _ _ (bstep hHeld (Nat.le_refl _) hbD) (fun hHeld => ?_)
            clear hK KK
            (try simp only [List.setIfInBounds_toArray, List.set_cons_zero, List.set_cons_succ])
            refine take_in (v := ?_) 61 5 rfl rfl (by kernel_rfl) (by kernel_rfl) (by kernel_rfl) (fun _ _ _ h => h) (by rfl) ?_ (by assumption) ?_
            rotate_left 1
            · (intro w hSw; go_simp; (try with_reducible rfl))
            (try simp only [List.setIfInBounds_toArray, List.set_cons_zero, List.set_cons_succ])
            refine take_in (v := ?_) 67 6 rfl rfl (by kernel_rfl) (by kernel_rfl) (by kernel_rfl) (fun _ _ _ h => h) (by rfl) ?_ (by assumption) ?_
            rotate_left 1
            · (intro w hSw; go_simp; (try with_reducible rfl))
            (try simp only [List.setIfInBounds_toArray, List.set_cons_zero, List.set_cons_succ])
            refine take_in (v := ?_) 68 7 rfl rfl (by kernel_rfl) (by kernel_rfl) (by kernel_rfl) (fun _ _ _ h => h) (by rfl) ?_ (by assumption) ?_
            rotate_left 1
            · (intro w hSw; go_simp; (try with_reducible rfl))
            (try simp only [List.setIfInBounds_toArray, List.set_cons_zero, List.set_cons_succ])
            refine take_in (v := ?_) 13 8 rfl rfl (by kernel_rfl) (by kernel_rfl) (by kernel_rfl) (fun _ _ _ h => h) (by rfl) ?_ (by assumption) ?_
            rotate_left 1
            · (intro w hSw; go_simp; (try with_reducible rfl))
            (try simp only [List.setIfInBounds_toArray, List.set_cons_zero, List.set_cons_succ])
            refine take_in (v := ?_) 14 9 rfl rfl (by kernel_rfl) (by kernel_rfl) (by kernel_rfl) (fun _ _ _ h => h) (by rfl) ?_ (by assumption) ?_
            rotate_left 1
            · (intro w hSw; go_simp; (try with_reducible rfl))
            (try simp only [List.setIfInBounds_toArray, List.set_cons_zero, List.set_cons_succ])
            refine wpAnyH_done (by kernel_rfl) ?_ _
            rw [HZL2.out, HZ2.out] at hoN2
            obtain rfl : m = nN2 := by rw [← hoN2.len, sumL_length, HX.out]
            have RN2 := Lib.hid hoN2.rd
            have HLN2 := Lib.hid hoN2.len
            have hbN := hHeld
            replace SH := Lib.hid (SH.out.below (by omega) hbN)
            replace HB := Lib.hid (bstep HB.out (Nat.le_refl _) hbN)
            replace RA := Lib.hid ((RA.out.below hbN).more hbN.size)
            replace RB := Lib.hid ((RB.out.below hbN).more hbN.size)
            replace RX := Lib.hid ((RX.out.below hbN).more hbN.size)
            replace RY := Lib.hid ((RY.out.below hbN).more hbN.size)
            replace RN1 := Lib.hid ((RN1.out.below hbN).more hbN.size)
            have hsD2 := hbN.size
            clear hoN2 hoS2 hbN hHeld hbC hbD
            have y0 := SH.out.d
            have y1 := SH.out.r
            have y2 := SH.out.s
            have y3 := SH.out.m
            go_wp2_with fail
            clear y0 y1 y2 y3
            refine (sums_any A4 A5 m c4' c5' d s H4 H5 X Y _ HX.out HY.out RX.out RY.out HGX.out HGY.out (by omega) (by omega) (by omega)).mono ?_
            rintro e w9 ⟨A8, c8, H8, rfl, ho8, hb9⟩
            have RS := Lib.hid ho8.rd
            have HLS := Lib.hid ho8.len
            clear ho8
            replace SH := Lib.hid (SH.out.below (by omega) hb9)
            replace HB := Lib.hid (bstep HB.out (Nat.le_refl _) hb9)
            replace RA := Lib.hid ((RA.out.below hb9).more hb9.size)
            replace RB := Lib.hid ((RB.out.below hb9).more hb9.size)
            replace RX := Lib.hid ((RX.out.below hb9).more hb9.size)
            replace RY := Lib.hid ((RY.out.below hb9).more hb9.size)
            replace RN1 := Lib.hid ((RN1.out.below hb9).more hb9.size)
            replace RN2 := Lib.hid ((RN2.out.below hb9).more hb9.size)
            have hs9 := hb9.size
            clear hb9 
            go_wp2_with fail
            refine (same_eq AN1 A8 m cN1 m c8 _ _ HN1' H8 (sumL X Y) (sumL X Y) _ HLN1.out HLS.out RN1.out RS.out (Nat.le_refl _) (Nat.le_refl _) (by omega) (HLZ.out X Y HX.out HGX.out)).mono ?_
            rintro e w10 ⟨rfl, hb10⟩
            rw [show decide (sumL X Y = sumL X Y) = true from decide_eq_true rfl]
            replace SH := Lib.hid (SH.out.below (by omega) hb10)
            replace HB := Lib.hid (bstep HB.out (Nat.le_refl _) hb10)
            replace RA := Lib.hid ((RA.out.below hb10).more hb10.size)
            replace RB := Lib.hid ((RB.out.below hb10).more hb10.size)
            replace RX := Lib.hid ((RX.out.below hb10).more hb10.size)
            replace RY := Lib.hid ((RY.out.below hb10).more hb10.size)
            replace RN1 := Lib.hid ((RN1.out.below hb10).more hb10.size)
            replace RN2 := Lib.hid ((RN2.out.below hb10).more hb10.size)
            replace RS := Lib.hid ((RS.out.below hb10).more hb10.size)
            have hs10 := hb10.size
            clear hb10 
            go_wp2_with fail
            refine (sums_any A4 A4 m c4' c4' d s H4 H4 X X _ HX.out HX.out RX.out RX.out HGX.out HGX.out (by omega) (by omega) (by omega)).mono ?_
            rintro e w11 ⟨A9, c9, H9, rfl, ho9, hb11⟩
            have RS2 := Lib.hid ho9.rd
            have HLS2 := Lib.hid ho9.len
            clear ho9
            replace SH := Lib.hid (SH.out.below (by omega) hb11)
            replace HB := Lib.hid (bstep HB.out (Nat.le_refl _) hb11)
            replace RA := Lib.hid ((RA.out.below hb11).more hb11.size)
            replace RB := Lib.hid ((RB.out.below hb11).more hb11.size)
            replace RX := Lib.hid ((RX.out.below hb11).more hb11.size)
            replace RY := Lib.hid ((RY.out.below hb11).more hb11.size)
            replace RN1 := Lib.hid ((RN1.out.below hb11).more hb11.size)
            replace RN2 := Lib.hid ((RN2.out.below hb11).more hb11.size)
            replace RS := Lib.hid ((RS.out.below hb11).more hb11.size)
            have hs11 := hb11.size
            clear hb11 
            go_wp2_with fail
            refine (same_eq AN2 A9 m cN2 m c9 _ _ HN2' H9 (sumL X X) (sumL X X) _ HLN2.out HLS2.out RN2.out RS2.out (Nat.le_refl _) (Nat.le_refl _) (by omega) (HLZ.out X X HX.out HGX.out)).mono ?_
            rintro e w12 ⟨rfl, hb12⟩
            rw [show decide (sumL X X = sumL X X) = true from decide_eq_true rfl]
            replace SH := Lib.hid (SH.out.below (by omega) hb12)
            replace HB := Lib.hid (bstep HB.out (Nat.le_refl _) hb12)
            replace RA := Lib.hid ((RA.out.below hb12).more hb12.size)
            replace RB := Lib.hid ((RB.out.below hb12).more hb12.size)
            replace RX := Lib.hid ((RX.out.below hb12).more hb12.size)
            replace RY := Lib.hid ((RY.out.below hb12).more hb12.size)
            replace RN1 := Lib.hid ((RN1.out.below hb12).more hb12.size)
            replace RN2 := Lib.hid ((RN2.out.below hb12).more hb12.size)
            replace RS := Lib.hid ((RS.out.below hb12).more hb12.size)
            replace RS2 := Lib.hid ((RS2.out.below hb12).more hb12.size)
            have hs12 := hb12.size
            clear hb12 
            go_wp2_with fail
            go_ret
            exact ⟨rfl, HB.out⟩
          · have t1 : (recCode D R S M L != 0) = false := by simpa using hcode
            have t2 : (recCode D R S M K != 0) = true := by simpa using hcode2
            clear hcode hcode2 RX HX RY HY
            generalize recCode D R S M L = e1 at t1
            generalize recCode D R S M K = e2 at t2
            go_wp2_with fail
            go_ret
            exact ⟨rfl, HB.out⟩
        · have t1 : (recCode D R S M L != 0) = true := by simpa using hcode
          clear hcode RX HX RY HY
          generalize recCode D R S M L = e1 at t1
          generalize recCode D R S M K = e2
          go_wp2_with fail
          go_ret
          exact ⟨rfl, HB.out⟩
      · have t0 : ((n1 : Int) != (n2 : Int)) = true := by simp; omega
        clear hnn
        go_wp2_with fail
        refine (works_any _).mono ?_
        rintro e wz ⟨rfl, hbz⟩
        go_wp2_with fail
        go_ret
        exact ⟨rfl, bstep HB.out (Nat.le_refl _) hbz⟩
end Go.Proofs.Ythejbmjleohlfaa
