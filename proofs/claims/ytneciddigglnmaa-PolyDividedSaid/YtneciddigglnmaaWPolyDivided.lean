/- The walk of the statement PolyDivided: quotients, rests, roots. -/
import Derived.Test.YtneciddigglnmaaPl2
namespace Go.Proofs.Ytneciddigglnmaa
open Go.RowKit

theorem any_take (l : List F) (x : F) {i : Nat} (hi : i < l.length) : ((l.take i).any (fun a => a == x) || (l.getD i 0 == x)) = (l.take (i + 1)).any (fun a => a == x) := by
  rw [List.take_succ_eq_append_getElem hi, List.any_append, List.getD, List.getElem?_eq_getElem hi]
  simp
set_option maxRecDepth 100000 in
set_option maxHeartbeats 8000000 in
theorem divided_walk (A1 A2 : Option Addr) (n1 n2 c1 c2 : Nat) (l1 l2 : List F) (x : F) (w : World) (h1 : l1.length = n1) (h2 : l2.length = n2) (hr1 : Rd w w.heap.size A1 l1) (hr2 : Rd w w.heap.size A2 l2) (hc1 : n1 ≤ c1) (hc2 : n2 ≤ c2) (_hm1 : n1 ≤ 9223372036854775807) (_hm2 : n2 ≤ 9223372036854775807) :
    Calls Try.prog 8 #[.slice A1 n1 c1, .slice A2 n2 c2, .int .u16 x.nat] w fun e w' => e = .returned (.bool true) ∧ Below w.heap.size w w' := by
  have H1 := Lib.hid h1
  have H2 := Lib.hid h2
  have R1 := Lib.hid hr1
  have R2 := Lib.hid hr2
  clear h1 h2 hr1 hr2
  go_enter Try.func8, Try.ntmps8
  go_wp2_with (first
    | (go_at_call 10; refine (awake_any _).mono ?_; rintro e w' ⟨rfl, hbn⟩; (first | (replace hbw := bstep hbw (Nat.le_refl _) hbn; clear hbn) | (have hbw := hbn; clear hbn))))
  all_goals first | (go_ret; exact ⟨rfl, hbw⟩) | skip
  have HB := Lib.hid hbw
  replace R1 := Lib.hid (R1.out.step0 hbw)
  replace R2 := Lib.hid (R2.out.step0 hbw)
  clear hbw
  have m1 : n1 ≤ 60 := by omega
  have m2 : n2 ≤ 60 := by omega
  refine (of_any A1 n1 c1 l1 _ H1.out (by exact R1.out) (by omega)).mono ?_
  rintro e w1 ⟨Ao, co, rfl, hm, hb⟩
  rw [ofL_len, H1.out] at hm ⊢
  replace HB := Lib.hid (bstep HB.out (Nat.le_refl _) hb)
  replace R1 := Lib.hid (R1.out.step0 hb)
  replace R2 := Lib.hid (R2.out.step0 hb)
  have RO := Lib.hid hm.rd
  have HO := Lib.hid hm.len
  have HZ := Lib.hid (fun y => ofL_zero l1 y)
  clear hm hb
  generalize ofL l1 = o at RO HO HZ
  go_wp2_with fail
  go_loopw [8, 9] (fun rt j wr => ∃ i : Nat, i ≤ n1 ∧ j = .int .i64 i ∧ rt = .bool ((l1.take i).any (fun a => a == x)) ∧ Below w1.heap.size w1 wr) (fun _ j _ => n1 - (intOf j).toNat)
  case atStart => exact ⟨0, by omega, rfl, rfl, Below.refl _ _⟩
  case round =>
    obtain ⟨i, hi, rfl, rfl, hb⟩ := hrel
    by_cases hin : i < n1
    · obtain ⟨b, off, rfl, hlt, hc⟩ := (R1.out.below hb) (by rw [H1.out]; omega)
      have cc := hc i (by rw [H1.out]; exact hin)
      have HA := Lib.hid (any_take l1 x (i := i) (by rw [H1.out]; exact hin))
      have HY := Lib.hid ((HZ.out (l1.getD i 0)).2 (by rw [List.getD, List.getElem?_eq_getElem (by rw [H1.out]; exact hin)]; exact List.getElem_mem _))
      have RO2 := Lib.hid ((RO.out.below hb).more hb.size)
      clear hc
      generalize (l1.take i).any (fun a => a == x) = rt at HA
      generalize l1.getD i 0 = y at cc HA HY
      have q1 : (0 : Int) ≤ (i : Int) := by omega
      have q2 : (i : Int) < (n1 : Int) := by omega
      cases rt with
      | true =>
        have e2 := HA.out
        rw [Bool.true_or] at e2
        have HE := Lib.hid e2
        clear e2
        go_wp2_with (go_at_call 12; refine (at_any Ao (n1 + 1) co o y _ HO.out (by omega) (by exact RO2.out)).mono ?_; rintro e w6 ⟨rfl, hb6⟩; rw [HY.out, show ((0 : F).nat : Int) = 0 from rfl])
        go_roundw
        case rel => exact ⟨i + 1, by omega, by go_num, by rw [← HE.out], bstep hb (Nat.le_refl _) hb6⟩
        case measure => simp only [intOf]; omega
      | false =>
        by_cases hyx : y = x
        · have e2 := HA.out
          rw [Bool.false_or, beq_iff_eq.2 hyx] at e2
          have hq := feq hyx
          have HE := Lib.hid e2
          clear hyx e2
          go_wp2_with (go_at_call 12; refine (at_any Ao (n1 + 1) co o y _ HO.out (by omega) (by exact RO2.out)).mono ?_; rintro e w6 ⟨rfl, hb6⟩; rw [HY.out, show ((0 : F).nat : Int) = 0 from rfl])
          go_roundw
          case rel => exact ⟨i + 1, by omega, by go_num, by rw [← HE.out], bstep hb (Nat.le_refl _) hb6⟩
          case measure => simp only [intOf]; omega
        · have e2 := HA.out
          rw [Bool.false_or, beq_eq_false_iff_ne.2 hyx] at e2
          have hq := feq' hyx
          have HE := Lib.hid e2
          clear hyx e2
          go_wp2_with (go_at_call 12; refine (at_any Ao (n1 + 1) co o y _ HO.out (by omega) (by exact RO2.out)).mono ?_; rintro e w6 ⟨rfl, hb6⟩; rw [HY.out, show ((0 : F).nat : Int) = 0 from rfl])
          go_roundw
          case rel => exact ⟨i + 1, by omega, by go_num, by rw [← HE.out], bstep hb (Nat.le_refl _) hb6⟩
          case measure => simp only [intOf]; omega
    · obtain rfl : i = n1 := by omega
      have e : l1.take i = l1 := List.take_of_length_le (by rw [H1.out]; omega)
      rw [e]
      replace HB := Lib.hid (bstep HB.out (Nat.le_refl _) hb)
      replace R1 := Lib.hid (R1.out.step0 hb)
      replace R2 := Lib.hid (R2.out.step0 hb)
      replace RO := Lib.hid (RO.out.step0 hb)
      have HM := Lib.hid (show l1.any (fun a => a == x) = decide (pv o x = 0) from by
        rw [Bool.eq_iff_iff, List.any_eq_true, decide_eq_true_iff, HZ.out x]
        exact ⟨fun ⟨a, ha, hax⟩ => by rw [beq_iff_eq] at hax; exact hax ▸ ha, fun h => ⟨x, h, beq_self_eq_true _⟩⟩)
      clear hb e
      generalize l1.any (fun a => a == x) = rt at HM
      have hq : (((pv o x).nat : Int) == 0) = rt := by
        by_cases h : pv o x = 0
        · rw [feq0 h, HM.out, decide_eq_true h]
        · rw [feq0' h, HM.out, decide_eq_false h]
      clear HM
      go_wp2_with fail
      refine (at_any Ao (i + 1) co o x _ HO.out (by omega) (by exact RO.out)).mono ?_
      rintro e w11 ⟨rfl, hb⟩
      replace HB := Lib.hid (bstep HB.out (Nat.le_refl _) hb)
      replace R1 := Lib.hid (R1.out.step0 hb)
      replace R2 := Lib.hid (R2.out.step0 hb)
      replace RO := Lib.hid (RO.out.step0 hb)
      clear hb
      generalize pv o x = v at hq
      clear RO
      by_cases hz : (shortL l2).length = 0
      · have hz2 : shortL l2 = [] := List.eq_nil_of_length_eq_zero hz
        have HZ2 := Lib.hid hz2
        clear hz hz2
        go_wp2_with fail
        refine (div_bad A1 A2 i n2 c1 c2 l1 l2 _ H1.out H2.out (by exact R1.out) (by exact R2.out) (by omega) (by omega) hc1 hc2 HZ2.out).mono ?_
        rintro e w21 ⟨rfl, hb⟩
        replace HB := Lib.hid (bstep HB.out (Nat.le_refl _) hb)
        replace R1 := Lib.hid (R1.out.step0 hb)
        replace R2 := Lib.hid (R2.out.step0 hb)
        clear hb
        go_wp2_with fail
        refine (short_any A2 n2 c2 l2 _ H2.out (by exact R2.out) (by omega) hc2).mono ?_
        rw [HZ2.out]
        rintro e w22 ⟨As, cs, rfl, hm, hb⟩
        replace HB := Lib.hid (bstep HB.out (Nat.le_refl _) hb)
        replace R1 := Lib.hid (R1.out.step0 hb)
        replace R2 := Lib.hid (R2.out.step0 hb)
        clear hm hb
        rw [List.length_nil]
        go_wp2_with fail
        go_ret
        exact ⟨rfl, HB.out⟩
      · have hzp : 0 < (shortL l2).length := by omega
        have HP := Lib.hid (div_product (a := l1) (b := l2) (by rw [H1.out, H2.out]; omega) hzp)
        have HZ2 := Lib.hid hzp
        clear hz hzp
        go_wp2_with fail
        refine (div_ok A1 A2 i n2 c1 c2 l1 l2 _ H1.out H2.out (by exact R1.out) (by exact R2.out) (by omega) (by omega) hc1 hc2 HZ2.out).mono ?_
        rintro e w31 ⟨Aq, Ar, cq, cr, q, r, rfl, hm1, hm2, hb, hd⟩
        replace HB := Lib.hid (bstep HB.out (Nat.le_refl _) hb)
        replace R1 := Lib.hid (R1.out.step0 hb)
        replace R2 := Lib.hid (R2.out.step0 hb)
        have RQ := Lib.hid hm1.rd
        have RR := Lib.hid hm2.rd
        have HD := Lib.hid (div_back hd (by rw [H1.out]; omega) (by rw [H2.out]; omega))
        have hlq := hd.q_length
        have hlr := hd.less
        rw [H1.out] at hlq
        obtain ⟨nq, hnq⟩ : ∃ n, n = q.length := ⟨_, rfl⟩
        obtain ⟨nr, hnr⟩ : ∃ n, n = r.length := ⟨_, rfl⟩
        rw [← hnq] at hlq
        rw [← hnr] at hlr
        rw [← hnq, ← hnr]
        have HQ := Lib.hid hnq.symm
        have HR := Lib.hid hnr.symm
        clear hm1 hm2 hb hd hnq hnr
        go_wp2_with fail
        refine (short_any A2 n2 c2 l2 _ H2.out (by exact R2.out) (by omega) hc2).mono ?_
        rintro e w31 ⟨As, cs, rfl, hm, hb⟩
        replace HB := Lib.hid (bstep HB.out (Nat.le_refl _) hb)
        replace R1 := Lib.hid (R1.out.step0 hb)
        replace R2 := Lib.hid (R2.out.step0 hb)
        replace RQ := Lib.hid (RQ.out.step0 hb)
        replace RR := Lib.hid (RR.out.step0 hb)
        obtain ⟨ns, hns⟩ : ∃ n, n = List.length (shortL l2) := ⟨_, rfl⟩
        rw [← hns] at hm ⊢
        have Hs := Lib.hid hns.symm
        have ks := hm.cap.1
        have bds : ns ≤ n2 := by rw [hns, ← H2.out]; exact shortL_length _
        clear hm hb hns
        rw [Hs.out] at hlr
        have hnsp : 0 < ns := by omega
        have t2 : ((ns : Int) == 0) = false := by rw [beq_eq_false_iff_ne]; omega
        have t3 : decide ((ns : Int) ≤ (nr : Int)) = false := by rw [decide_eq_false_iff_not]; omega
        go_wp2_with fail
        refine (pmul_any Aq A2 nq n2 cq c2 q l2 _ HQ.out H2.out (by exact RQ.out) (by exact R2.out) (by omega)).mono ?_
        rintro e w32 ⟨Am, cm, rfl, hm, hb⟩
        replace HB := Lib.hid (bstep HB.out (Nat.le_refl _) hb)
        replace R1 := Lib.hid (R1.out.step0 hb)
        replace R2 := Lib.hid (R2.out.step0 hb)
        replace RQ := Lib.hid (RQ.out.step0 hb)
        replace RR := Lib.hid (RR.out.step0 hb)
        obtain ⟨nm, hnm⟩ : ∃ n, n = List.length (mulL q l2) := ⟨_, rfl⟩
        rw [← hnm] at hm ⊢
        have Hm := Lib.hid hnm.symm
        have Rm := Lib.hid hm.rd
        have km := hm.cap.1
        have bdm : nm ≤ nq + n2 := by rw [hnm, ← HQ.out, ← H2.out]; exact mulL_length _ _
        clear hm hb hnm
        go_wp2_with fail
        refine (padd_any Am Ar nm nr cm cr (mulL q l2) r _ Hm.out HR.out (by exact Rm.out) (by exact RR.out) (by omega) (by omega)).mono ?_
        rintro e w33 ⟨Aa, ca, rfl, hm, hb⟩
        replace HB := Lib.hid (bstep HB.out (Nat.le_refl _) hb)
        replace R1 := Lib.hid (R1.out.step0 hb)
        replace R2 := Lib.hid (R2.out.step0 hb)
        replace RQ := Lib.hid (RQ.out.step0 hb)
        replace RR := Lib.hid (RR.out.step0 hb)
        replace Rm := Lib.hid (Rm.out.step0 hb)
        obtain ⟨na, hna⟩ : ∃ n, n = List.length (addL (mulL q l2) r) := ⟨_, rfl⟩
        rw [← hna] at hm ⊢
        have Ha := Lib.hid hna.symm
        have Ra := Lib.hid hm.rd
        have ka := hm.cap.1
        have bda : na ≤ max nm nr := by rw [hna, ← Hm.out, ← HR.out]; exact addL_length _ _
        clear hm hb hna
        go_wp2_with fail
        refine (short_any A1 i c1 l1 _ H1.out (by exact R1.out) (by omega) hc1).mono ?_
        rintro e w34 ⟨Ab, cb, rfl, hm, hb⟩
        replace HB := Lib.hid (bstep HB.out (Nat.le_refl _) hb)
        replace R1 := Lib.hid (R1.out.step0 hb)
        replace R2 := Lib.hid (R2.out.step0 hb)
        replace RQ := Lib.hid (RQ.out.step0 hb)
        replace RR := Lib.hid (RR.out.step0 hb)
        replace Rm := Lib.hid (Rm.out.step0 hb)
        replace Ra := Lib.hid (Ra.out.step0 hb)
        obtain ⟨nb, hnb⟩ : ∃ n, n = List.length (shortL l1) := ⟨_, rfl⟩
        rw [← hnb] at hm ⊢
        have Hb := Lib.hid hnb.symm
        have Rb := Lib.hid hm.rd
        have kb := hm.cap.1
        have bdb : nb ≤ i := by rw [hnb, ← H1.out]; exact shortL_length _
        clear hm hb hnb
        go_wp2_with fail
        refine (same_any Aa Ab na ca nb cb _ _ (addL (mulL q l2) r) (shortL l1) _ Ha.out Hb.out (by exact Ra.out) (by exact Rb.out) (Nat.le_refl _) (Nat.le_refl _) (by unfold maxLen; omega)).mono ?_
        rintro e w40 ⟨rfl, hb⟩
        rw [decide_eq_true HD.out]
        replace HB := Lib.hid (bstep HB.out (Nat.le_refl _) hb)
        replace R1 := Lib.hid (R1.out.step0 hb)
        replace R2 := Lib.hid (R2.out.step0 hb)
        replace RQ := Lib.hid (RQ.out.step0 hb)
        replace RR := Lib.hid (RR.out.step0 hb)
        replace Rm := Lib.hid (Rm.out.step0 hb)
        replace Ra := Lib.hid (Ra.out.step0 hb)
        replace Rb := Lib.hid (Rb.out.step0 hb)
        clear hb Ra Rb Rm RQ RR
        go_wp2_with fail
        refine (pmul_any A1 A2 i n2 c1 c2 l1 l2 _ H1.out H2.out (by exact R1.out) (by exact R2.out) (by omega)).mono ?_
        rintro e w35 ⟨An, cn, rfl, hm, hb⟩
        replace HB := Lib.hid (bstep HB.out (Nat.le_refl _) hb)
        replace R1 := Lib.hid (R1.out.step0 hb)
        replace R2 := Lib.hid (R2.out.step0 hb)
        obtain ⟨nn, hnn⟩ : ∃ n, n = List.length (mulL l1 l2) := ⟨_, rfl⟩
        rw [← hnn] at hm ⊢
        have Hn := Lib.hid hnn.symm
        have Rn := Lib.hid hm.rd
        have kn := hm.cap.1
        have bdn : nn ≤ i + n2 := by rw [hnn, ← H1.out, ← H2.out]; exact mulL_length _ _
        clear hm hb hnn
        go_wp2_with fail
        refine (div_ok An A2 nn n2 cn c2 (mulL l1 l2) l2 _ Hn.out H2.out (by exact Rn.out) (by exact R2.out) (by omega) (by omega) kn hc2 HZ2.out).mono ?_
        rintro e w50 ⟨At, Au, ct, cu, s, t, rfl, hm1, hm2, hb, hd⟩
        obtain ⟨rfl, rfl⟩ := div_unique hd HP.out (by rw [Hn.out]; omega) (by rw [H2.out]; omega)
        replace HB := Lib.hid (bstep HB.out (Nat.le_refl _) hb)
        replace R1 := Lib.hid (R1.out.step0 hb)
        replace R2 := Lib.hid (R2.out.step0 hb)
        replace Rn := Lib.hid (Rn.out.step0 hb)
        have RS := Lib.hid hm1.rd
        obtain ⟨nt, hnt⟩ : ∃ n, n = (shortL l1).length := ⟨_, rfl⟩
        rw [← hnt, List.length_nil]
        have HT := Lib.hid hnt.symm
        clear hm1 hm2 hb hd hnt
        go_wp2_with fail
        refine (short_any A1 i c1 l1 _ H1.out (by exact R1.out) (by omega) hc1).mono ?_
        rintro e w36 ⟨Av, cv, rfl, hm, hb⟩
        replace HB := Lib.hid (bstep HB.out (Nat.le_refl _) hb)
        replace R1 := Lib.hid (R1.out.step0 hb)
        replace R2 := Lib.hid (R2.out.step0 hb)
        replace Rn := Lib.hid (Rn.out.step0 hb)
        replace RS := Lib.hid (RS.out.step0 hb)
        obtain ⟨nv, hnv⟩ : ∃ n, n = List.length (shortL l1) := ⟨_, rfl⟩
        rw [← hnv] at hm ⊢
        have Hv := Lib.hid hnv.symm
        have Rv := Lib.hid hm.rd
        have kv := hm.cap.1
        have bdv : nv ≤ i := by rw [hnv, ← H1.out]; exact shortL_length _
        clear hm hb hnv
        go_wp2_with fail
        have bt : nt ≤ i := by rw [← HT.out, ← H1.out]; exact shortL_length _
        refine (same_any At Av nt ct nv cv _ _ (shortL l1) (shortL l1) _ HT.out Hv.out (by exact RS.out) (by exact Rv.out) (Nat.le_refl _) (Nat.le_refl _) (by unfold maxLen; omega)).mono ?_
        rintro e w60 ⟨rfl, hb⟩
        rw [decide_eq_true rfl]
        replace HB := Lib.hid (bstep HB.out (Nat.le_refl _) hb)
        replace R1 := Lib.hid (R1.out.step0 hb)
        replace R2 := Lib.hid (R2.out.step0 hb)
        replace Rn := Lib.hid (Rn.out.step0 hb)
        replace RS := Lib.hid (RS.out.step0 hb)
        replace Rv := Lib.hid (Rv.out.step0 hb)
        clear hb
        go_wp2_with fail
        go_ret
        exact ⟨rfl, HB.out⟩
end Go.Proofs.Ytneciddigglnmaa
