/- The walk of the statement PolyRing: the polynomials are a ring; values; slopes. -/
import Derived.Test.YtneciddigglnmaaPl2
import Derived.Test.YtneciddigglnmaaRw
namespace Go.Proofs.Ytneciddigglnmaa
open Go.RowKit

set_option maxRecDepth 100000 in
set_option maxHeartbeats 8000000 in
theorem ring_walk (A1 A2 A3 : Option Addr) (n1 n2 n3 c1 c2 c3 : Nat) (l1 l2 l3 : List F) (x : F) (w : World) (h1 : l1.length = n1) (h2 : l2.length = n2) (h3 : l3.length = n3) (hr1 : Rd w w.heap.size A1 l1) (hr2 : Rd w w.heap.size A2 l2) (hr3 : Rd w w.heap.size A3 l3)
    (hc1 : n1 ≤ c1) (hc2 : n2 ≤ c2) (_hc3 : n3 ≤ c3) (hm1 : c1 ≤ maxLen) (hm2 : c2 ≤ maxLen) (hm3 : c3 ≤ maxLen) :
    Calls Try.prog 7 #[.slice A1 n1 c1, .slice A2 n2 c2, .slice A3 n3 c3, .int .u16 x.nat] w fun e w' => e = .returned (.bool true) ∧ Below w.heap.size w w' := by
  have H1 := Lib.hid h1
  have H2 := Lib.hid h2
  have H3 := Lib.hid h3
  have R1 := Lib.hid hr1
  have R2 := Lib.hid hr2
  have R3 := Lib.hid hr3
  have M1 := Lib.hid hm1
  have M2 := Lib.hid hm2
  have b1 : n1 ≤ 9223372036854775807 := by unfold maxLen at hm1; omega
  have b2 : n2 ≤ 9223372036854775807 := by unfold maxLen at hm2; omega
  have b3 : n3 ≤ 9223372036854775807 := by unfold maxLen at hm3; omega
  clear h1 h2 h3 hr1 hr2 hr3 hm1 hm2 hm3
  go_enter Try.func7, Try.ntmps7
  go_wp2_with (first
    | (go_at_call 10; refine (awake_any _).mono ?_; rintro e w' ⟨rfl, hbn⟩; (first | (replace hbw := bstep hbw (Nat.le_refl _) hbn; clear hbn) | (have hbw := hbn; clear hbn))))
  all_goals first | (go_ret; exact ⟨rfl, hbw⟩) | skip
  have HB := Lib.hid hbw
  replace R1 := Lib.hid (R1.out.step0 hbw)
  replace R2 := Lib.hid (R2.out.step0 hbw)
  replace R3 := Lib.hid (R3.out.step0 hbw)
  clear hbw
  have m1 : n1 ≤ 40 := by omega
  have m2 : n2 ≤ 40 := by omega
  have m3 : n3 ≤ 40 := by omega
  clear b1 b2 b3
  have E1 := Lib.hid (addL_comm l1 l2)
  have E2 := Lib.hid (mulL_comm l1 l2 (by rw [H1.out, H2.out]; omega))
  have E3 := Lib.hid (mulL_assoc l1 l2 l3 (by rw [H1.out, H2.out, H3.out]; omega))
  have E4 := Lib.hid (mulL_addL l1 l2 l3 (by rw [H1.out, H2.out, H3.out]; omega))
  obtain ⟨u, hu⟩ : ∃ u, pv l1 x = u := ⟨_, rfl⟩
  obtain ⟨v, hv⟩ : ∃ v, pv l2 x = v := ⟨_, rfl⟩
  have E5 := Lib.hid (pv_addL l1 l2 x)
  have E6 := Lib.hid (pv_mulL l1 l2 x)
  rw [hu, hv] at E5 E6
  have HU := Lib.hid hu
  have HV := Lib.hid hv
  have hxor := bits_xor u v
  clear hu hv
  have E7 := Lib.hid (slope_add l1 l2)
  have E8 := Lib.hid (slope_mul l1 l2 (by rw [H1.out, H2.out]; omega))
  go_wp2_with fail
  refine (padd_any A1 A2 n1 n2 c1 c2 (l1) (l2) _ H1.out H2.out (by exact R1.out) (by exact R2.out) (by omega) (by omega)).mono ?_
  rintro e w11 ⟨Aa, ca, rfl, hm, hb⟩
  replace HB := Lib.hid (bstep HB.out (Nat.le_refl _) hb)
  replace R1 := Lib.hid (R1.out.step0 hb)
  replace R2 := Lib.hid (R2.out.step0 hb)
  replace R3 := Lib.hid (R3.out.step0 hb)
  obtain ⟨na, hna⟩ : ∃ n, n = List.length (addL (l1) (l2)) := ⟨_, rfl⟩
  rw [← hna] at hm ⊢
  have Ha := Lib.hid hna.symm
  have Ra := Lib.hid hm.rd
  have ka := hm.cap.1
  have Ka := Lib.hid hm.cap.2
  have bda : na ≤ max n1 n2 := by rw [hna, ← H1.out, ← H2.out]; exact addL_length _ _
  clear hm hb hna
  go_wp2_with fail
  refine (padd_any A2 A1 n2 n1 c2 c1 (l2) (l1) _ H2.out H1.out (by exact R2.out) (by exact R1.out) (by omega) (by omega)).mono ?_
  rintro e w12 ⟨Ab, cb, rfl, hm, hb⟩
  replace HB := Lib.hid (bstep HB.out (Nat.le_refl _) hb)
  replace R1 := Lib.hid (R1.out.step0 hb)
  replace R2 := Lib.hid (R2.out.step0 hb)
  replace R3 := Lib.hid (R3.out.step0 hb)
  replace Ra := Lib.hid (Ra.out.step0 hb)
  obtain ⟨nb, hnb⟩ : ∃ n, n = List.length (addL (l2) (l1)) := ⟨_, rfl⟩
  rw [← hnb] at hm ⊢
  have Hb := Lib.hid hnb.symm
  have Rb := Lib.hid hm.rd
  have kb := hm.cap.1
  have Kb := Lib.hid hm.cap.2
  have bdb : nb ≤ max n2 n1 := by rw [hnb, ← H2.out, ← H1.out]; exact addL_length _ _
  clear hm hb hnb
  go_wp2_with fail
  refine (same_any Aa Ab na ca nb cb _ _ (addL (l1) (l2)) (addL (l2) (l1)) _ Ha.out Hb.out (by exact Ra.out) (by exact Rb.out) (Nat.le_refl _) (Nat.le_refl _) (by unfold maxLen; omega)).mono ?_
  rintro e w13 ⟨rfl, hb⟩
  rw [decide_eq_true E1.out]
  replace HB := Lib.hid (bstep HB.out (Nat.le_refl _) hb)
  replace R1 := Lib.hid (R1.out.step0 hb)
  replace R2 := Lib.hid (R2.out.step0 hb)
  replace R3 := Lib.hid (R3.out.step0 hb)
  replace Ra := Lib.hid (Ra.out.step0 hb)
  replace Rb := Lib.hid (Rb.out.step0 hb)
  clear hb
  clear Ra Rb
  go_wp2_with fail
  refine (pmul_any A1 A2 n1 n2 c1 c2 (l1) (l2) _ H1.out H2.out (by exact R1.out) (by exact R2.out) (by omega)).mono ?_
  rintro e w14 ⟨Ac, cc, rfl, hm, hb⟩
  replace HB := Lib.hid (bstep HB.out (Nat.le_refl _) hb)
  replace R1 := Lib.hid (R1.out.step0 hb)
  replace R2 := Lib.hid (R2.out.step0 hb)
  replace R3 := Lib.hid (R3.out.step0 hb)
  obtain ⟨nc, hnc⟩ : ∃ n, n = List.length (mulL (l1) (l2)) := ⟨_, rfl⟩
  rw [← hnc] at hm ⊢
  have Hc := Lib.hid hnc.symm
  have Rc := Lib.hid hm.rd
  have kc := hm.cap.1
  have Kc := Lib.hid hm.cap.2
  have bdc : nc ≤ n1 + n2 := by rw [hnc, ← H1.out, ← H2.out]; exact mulL_length _ _
  clear hm hb hnc
  go_wp2_with fail
  refine (pmul_any A2 A1 n2 n1 c2 c1 (l2) (l1) _ H2.out H1.out (by exact R2.out) (by exact R1.out) (by omega)).mono ?_
  rintro e w15 ⟨Ad, cd, rfl, hm, hb⟩
  replace HB := Lib.hid (bstep HB.out (Nat.le_refl _) hb)
  replace R1 := Lib.hid (R1.out.step0 hb)
  replace R2 := Lib.hid (R2.out.step0 hb)
  replace R3 := Lib.hid (R3.out.step0 hb)
  replace Rc := Lib.hid (Rc.out.step0 hb)
  obtain ⟨nd, hnd⟩ : ∃ n, n = List.length (mulL (l2) (l1)) := ⟨_, rfl⟩
  rw [← hnd] at hm ⊢
  have Hd := Lib.hid hnd.symm
  have Rd := Lib.hid hm.rd
  have kd := hm.cap.1
  have Kd := Lib.hid hm.cap.2
  have bdd : nd ≤ n2 + n1 := by rw [hnd, ← H2.out, ← H1.out]; exact mulL_length _ _
  clear hm hb hnd
  go_wp2_with fail
  refine (same_any Ac Ad nc cc nd cd _ _ (mulL (l1) (l2)) (mulL (l2) (l1)) _ Hc.out Hd.out (by exact Rc.out) (by exact Rd.out) (Nat.le_refl _) (Nat.le_refl _) (by unfold maxLen; omega)).mono ?_
  rintro e w16 ⟨rfl, hb⟩
  rw [decide_eq_true E2.out]
  replace HB := Lib.hid (bstep HB.out (Nat.le_refl _) hb)
  replace R1 := Lib.hid (R1.out.step0 hb)
  replace R2 := Lib.hid (R2.out.step0 hb)
  replace R3 := Lib.hid (R3.out.step0 hb)
  replace Rc := Lib.hid (Rc.out.step0 hb)
  replace Rd := Lib.hid (Rd.out.step0 hb)
  clear hb
  clear Rc Rd
  go_wp2_with fail
  refine (pmul_any A1 A2 n1 n2 c1 c2 (l1) (l2) _ H1.out H2.out (by exact R1.out) (by exact R2.out) (by omega)).mono ?_
  rintro e w17 ⟨Af, cf, rfl, hm, hb⟩
  replace HB := Lib.hid (bstep HB.out (Nat.le_refl _) hb)
  replace R1 := Lib.hid (R1.out.step0 hb)
  replace R2 := Lib.hid (R2.out.step0 hb)
  replace R3 := Lib.hid (R3.out.step0 hb)
  obtain ⟨nf, hnf⟩ : ∃ n, n = List.length (mulL (l1) (l2)) := ⟨_, rfl⟩
  rw [← hnf] at hm ⊢
  have Hf := Lib.hid hnf.symm
  have Rf := Lib.hid hm.rd
  have kf := hm.cap.1
  have Kf := Lib.hid hm.cap.2
  have bdf : nf ≤ n1 + n2 := by rw [hnf, ← H1.out, ← H2.out]; exact mulL_length _ _
  clear hm hb hnf
  go_wp2_with fail
  refine (pmul_any Af A3 nf n3 cf c3 (mulL (l1) (l2)) (l3) _ Hf.out H3.out (by exact Rf.out) (by exact R3.out) (by omega)).mono ?_
  rintro e w18 ⟨Ag, cg, rfl, hm, hb⟩
  replace HB := Lib.hid (bstep HB.out (Nat.le_refl _) hb)
  replace R1 := Lib.hid (R1.out.step0 hb)
  replace R2 := Lib.hid (R2.out.step0 hb)
  replace R3 := Lib.hid (R3.out.step0 hb)
  replace Rf := Lib.hid (Rf.out.step0 hb)
  obtain ⟨ng, hng⟩ : ∃ n, n = List.length (mulL (mulL (l1) (l2)) (l3)) := ⟨_, rfl⟩
  rw [← hng] at hm ⊢
  have Hg := Lib.hid hng.symm
  have Rg := Lib.hid hm.rd
  have kg := hm.cap.1
  have Kg := Lib.hid hm.cap.2
  have bdg : ng ≤ nf + n3 := by rw [hng, ← Hf.out, ← H3.out]; exact mulL_length _ _
  clear hm hb hng
  go_wp2_with fail
  refine (pmul_any A2 A3 n2 n3 c2 c3 (l2) (l3) _ H2.out H3.out (by exact R2.out) (by exact R3.out) (by omega)).mono ?_
  rintro e w19 ⟨Ah, ch, rfl, hm, hb⟩
  replace HB := Lib.hid (bstep HB.out (Nat.le_refl _) hb)
  replace R1 := Lib.hid (R1.out.step0 hb)
  replace R2 := Lib.hid (R2.out.step0 hb)
  replace R3 := Lib.hid (R3.out.step0 hb)
  replace Rf := Lib.hid (Rf.out.step0 hb)
  replace Rg := Lib.hid (Rg.out.step0 hb)
  obtain ⟨nh, hnh⟩ : ∃ n, n = List.length (mulL (l2) (l3)) := ⟨_, rfl⟩
  rw [← hnh] at hm ⊢
  have Hh := Lib.hid hnh.symm
  have Rh := Lib.hid hm.rd
  have kh := hm.cap.1
  have Kh := Lib.hid hm.cap.2
  have bdh : nh ≤ n2 + n3 := by rw [hnh, ← H2.out, ← H3.out]; exact mulL_length _ _
  clear hm hb hnh
  go_wp2_with fail
  refine (pmul_any A1 Ah n1 nh c1 ch (l1) (mulL (l2) (l3)) _ H1.out Hh.out (by exact R1.out) (by exact Rh.out) (by omega)).mono ?_
  rintro e w20 ⟨Ai, ci, rfl, hm, hb⟩
  replace HB := Lib.hid (bstep HB.out (Nat.le_refl _) hb)
  replace R1 := Lib.hid (R1.out.step0 hb)
  replace R2 := Lib.hid (R2.out.step0 hb)
  replace R3 := Lib.hid (R3.out.step0 hb)
  replace Rf := Lib.hid (Rf.out.step0 hb)
  replace Rg := Lib.hid (Rg.out.step0 hb)
  replace Rh := Lib.hid (Rh.out.step0 hb)
  obtain ⟨ni, hni⟩ : ∃ n, n = List.length (mulL (l1) (mulL (l2) (l3))) := ⟨_, rfl⟩
  rw [← hni] at hm ⊢
  have Hi := Lib.hid hni.symm
  have Ri := Lib.hid hm.rd
  have ki := hm.cap.1
  have Ki := Lib.hid hm.cap.2
  have bdi : ni ≤ n1 + nh := by rw [hni, ← H1.out, ← Hh.out]; exact mulL_length _ _
  clear hm hb hni
  go_wp2_with fail
  refine (same_any Ag Ai ng cg ni ci _ _ (mulL (mulL (l1) (l2)) (l3)) (mulL (l1) (mulL (l2) (l3))) _ Hg.out Hi.out (by exact Rg.out) (by exact Ri.out) (Nat.le_refl _) (Nat.le_refl _) (by unfold maxLen; omega)).mono ?_
  rintro e w21 ⟨rfl, hb⟩
  rw [decide_eq_true E3.out]
  replace HB := Lib.hid (bstep HB.out (Nat.le_refl _) hb)
  replace R1 := Lib.hid (R1.out.step0 hb)
  replace R2 := Lib.hid (R2.out.step0 hb)
  replace R3 := Lib.hid (R3.out.step0 hb)
  replace Rf := Lib.hid (Rf.out.step0 hb)
  replace Rg := Lib.hid (Rg.out.step0 hb)
  replace Rh := Lib.hid (Rh.out.step0 hb)
  replace Ri := Lib.hid (Ri.out.step0 hb)
  clear hb
  clear Rf Rg Rh Ri
  go_wp2_with fail
  refine (padd_any A2 A3 n2 n3 c2 c3 (l2) (l3) _ H2.out H3.out (by exact R2.out) (by exact R3.out) (by omega) (by omega)).mono ?_
  rintro e w22 ⟨Aj, cj, rfl, hm, hb⟩
  replace HB := Lib.hid (bstep HB.out (Nat.le_refl _) hb)
  replace R1 := Lib.hid (R1.out.step0 hb)
  replace R2 := Lib.hid (R2.out.step0 hb)
  replace R3 := Lib.hid (R3.out.step0 hb)
  obtain ⟨nj, hnj⟩ : ∃ n, n = List.length (addL (l2) (l3)) := ⟨_, rfl⟩
  rw [← hnj] at hm ⊢
  have Hj := Lib.hid hnj.symm
  have Rj := Lib.hid hm.rd
  have kj := hm.cap.1
  have Kj := Lib.hid hm.cap.2
  have bdj : nj ≤ max n2 n3 := by rw [hnj, ← H2.out, ← H3.out]; exact addL_length _ _
  clear hm hb hnj
  go_wp2_with fail
  refine (pmul_any A1 Aj n1 nj c1 cj (l1) (addL (l2) (l3)) _ H1.out Hj.out (by exact R1.out) (by exact Rj.out) (by omega)).mono ?_
  rintro e w23 ⟨Ak, ck, rfl, hm, hb⟩
  replace HB := Lib.hid (bstep HB.out (Nat.le_refl _) hb)
  replace R1 := Lib.hid (R1.out.step0 hb)
  replace R2 := Lib.hid (R2.out.step0 hb)
  replace R3 := Lib.hid (R3.out.step0 hb)
  replace Rj := Lib.hid (Rj.out.step0 hb)
  obtain ⟨nk, hnk⟩ : ∃ n, n = List.length (mulL (l1) (addL (l2) (l3))) := ⟨_, rfl⟩
  rw [← hnk] at hm ⊢
  have Hk := Lib.hid hnk.symm
  have Rk := Lib.hid hm.rd
  have kk := hm.cap.1
  have Kk := Lib.hid hm.cap.2
  have bdk : nk ≤ n1 + nj := by rw [hnk, ← H1.out, ← Hj.out]; exact mulL_length _ _
  clear hm hb hnk
  go_wp2_with fail
  refine (pmul_any A1 A2 n1 n2 c1 c2 (l1) (l2) _ H1.out H2.out (by exact R1.out) (by exact R2.out) (by omega)).mono ?_
  rintro e w24 ⟨Al, cl, rfl, hm, hb⟩
  replace HB := Lib.hid (bstep HB.out (Nat.le_refl _) hb)
  replace R1 := Lib.hid (R1.out.step0 hb)
  replace R2 := Lib.hid (R2.out.step0 hb)
  replace R3 := Lib.hid (R3.out.step0 hb)
  replace Rj := Lib.hid (Rj.out.step0 hb)
  replace Rk := Lib.hid (Rk.out.step0 hb)
  obtain ⟨nl, hnl⟩ : ∃ n, n = List.length (mulL (l1) (l2)) := ⟨_, rfl⟩
  rw [← hnl] at hm ⊢
  have Hl := Lib.hid hnl.symm
  have Rl := Lib.hid hm.rd
  have kl := hm.cap.1
  have Kl := Lib.hid hm.cap.2
  have bdl : nl ≤ n1 + n2 := by rw [hnl, ← H1.out, ← H2.out]; exact mulL_length _ _
  clear hm hb hnl
  go_wp2_with fail
  refine (pmul_any A1 A3 n1 n3 c1 c3 (l1) (l3) _ H1.out H3.out (by exact R1.out) (by exact R3.out) (by omega)).mono ?_
  rintro e w25 ⟨Am, cm, rfl, hm, hb⟩
  replace HB := Lib.hid (bstep HB.out (Nat.le_refl _) hb)
  replace R1 := Lib.hid (R1.out.step0 hb)
  replace R2 := Lib.hid (R2.out.step0 hb)
  replace R3 := Lib.hid (R3.out.step0 hb)
  replace Rj := Lib.hid (Rj.out.step0 hb)
  replace Rk := Lib.hid (Rk.out.step0 hb)
  replace Rl := Lib.hid (Rl.out.step0 hb)
  obtain ⟨nm, hnm⟩ : ∃ n, n = List.length (mulL (l1) (l3)) := ⟨_, rfl⟩
  rw [← hnm] at hm ⊢
  have Hm := Lib.hid hnm.symm
  have Rm := Lib.hid hm.rd
  have km := hm.cap.1
  have Km := Lib.hid hm.cap.2
  have bdm : nm ≤ n1 + n3 := by rw [hnm, ← H1.out, ← H3.out]; exact mulL_length _ _
  clear hm hb hnm
  go_wp2_with fail
  refine (padd_any Al Am nl nm cl cm (mulL (l1) (l2)) (mulL (l1) (l3)) _ Hl.out Hm.out (by exact Rl.out) (by exact Rm.out) (by omega) (by omega)).mono ?_
  rintro e w26 ⟨An, cn, rfl, hm, hb⟩
  replace HB := Lib.hid (bstep HB.out (Nat.le_refl _) hb)
  replace R1 := Lib.hid (R1.out.step0 hb)
  replace R2 := Lib.hid (R2.out.step0 hb)
  replace R3 := Lib.hid (R3.out.step0 hb)
  replace Rj := Lib.hid (Rj.out.step0 hb)
  replace Rk := Lib.hid (Rk.out.step0 hb)
  replace Rl := Lib.hid (Rl.out.step0 hb)
  replace Rm := Lib.hid (Rm.out.step0 hb)
  obtain ⟨nn, hnn⟩ : ∃ n, n = List.length (addL (mulL (l1) (l2)) (mulL (l1) (l3))) := ⟨_, rfl⟩
  rw [← hnn] at hm ⊢
  have Hn := Lib.hid hnn.symm
  have Rn := Lib.hid hm.rd
  have kn := hm.cap.1
  have Kn := Lib.hid hm.cap.2
  have bdn : nn ≤ max nl nm := by rw [hnn, ← Hl.out, ← Hm.out]; exact addL_length _ _
  clear hm hb hnn
  go_wp2_with fail
  refine (same_any Ak An nk ck nn cn _ _ (mulL (l1) (addL (l2) (l3))) (addL (mulL (l1) (l2)) (mulL (l1) (l3))) _ Hk.out Hn.out (by exact Rk.out) (by exact Rn.out) (Nat.le_refl _) (Nat.le_refl _) (by unfold maxLen; omega)).mono ?_
  rintro e w27 ⟨rfl, hb⟩
  rw [decide_eq_true E4.out]
  replace HB := Lib.hid (bstep HB.out (Nat.le_refl _) hb)
  replace R1 := Lib.hid (R1.out.step0 hb)
  replace R2 := Lib.hid (R2.out.step0 hb)
  replace R3 := Lib.hid (R3.out.step0 hb)
  replace Rj := Lib.hid (Rj.out.step0 hb)
  replace Rk := Lib.hid (Rk.out.step0 hb)
  replace Rl := Lib.hid (Rl.out.step0 hb)
  replace Rm := Lib.hid (Rm.out.step0 hb)
  replace Rn := Lib.hid (Rn.out.step0 hb)
  clear hb
  clear Rj Rk Rl Rm Rn
  go_wp2_with fail
  refine (padd_any A1 A2 n1 n2 c1 c2 (l1) (l2) _ H1.out H2.out (by exact R1.out) (by exact R2.out) (by omega) (by omega)).mono ?_
  rintro e w28 ⟨Ao, co, rfl, hm, hb⟩
  replace HB := Lib.hid (bstep HB.out (Nat.le_refl _) hb)
  replace R1 := Lib.hid (R1.out.step0 hb)
  replace R2 := Lib.hid (R2.out.step0 hb)
  replace R3 := Lib.hid (R3.out.step0 hb)
  obtain ⟨no, hno⟩ : ∃ n, n = List.length (addL (l1) (l2)) := ⟨_, rfl⟩
  rw [← hno] at hm ⊢
  have Ho := Lib.hid hno.symm
  have Ro := Lib.hid hm.rd
  have ko := hm.cap.1
  have Ko := Lib.hid hm.cap.2
  have bdo : no ≤ max n1 n2 := by rw [hno, ← H1.out, ← H2.out]; exact addL_length _ _
  clear hm hb hno
  go_wp2_with fail
  refine (at_any Ao no co (addL (l1) (l2)) x _ Ho.out (by omega) (by exact Ro.out)).mono ?_
  rintro e w29 ⟨rfl, hb⟩
  replace HB := Lib.hid (bstep HB.out (Nat.le_refl _) hb)
  replace R1 := Lib.hid (R1.out.step0 hb)
  replace R2 := Lib.hid (R2.out.step0 hb)
  replace R3 := Lib.hid (R3.out.step0 hb)
  replace Ro := Lib.hid (Ro.out.step0 hb)
  clear hb
  rw [E5.out]
  go_wp2_with fail
  refine (at_any A1 n1 c1 (l1) x _ H1.out (by omega) (by exact R1.out)).mono ?_
  rintro e w30 ⟨rfl, hb⟩
  replace HB := Lib.hid (bstep HB.out (Nat.le_refl _) hb)
  replace R1 := Lib.hid (R1.out.step0 hb)
  replace R2 := Lib.hid (R2.out.step0 hb)
  replace R3 := Lib.hid (R3.out.step0 hb)
  replace Ro := Lib.hid (Ro.out.step0 hb)
  clear hb
  rw [HU.out]
  go_wp2_with fail
  refine (at_any A2 n2 c2 (l2) x _ H2.out (by omega) (by exact R2.out)).mono ?_
  rintro e w31 ⟨rfl, hb⟩
  replace HB := Lib.hid (bstep HB.out (Nat.le_refl _) hb)
  replace R1 := Lib.hid (R1.out.step0 hb)
  replace R2 := Lib.hid (R2.out.step0 hb)
  replace R3 := Lib.hid (R3.out.step0 hb)
  replace Ro := Lib.hid (Ro.out.step0 hb)
  clear hb
  rw [HV.out]
  clear Ro
  go_wp2_with fail
  refine (pmul_any A1 A2 n1 n2 c1 c2 (l1) (l2) _ H1.out H2.out (by exact R1.out) (by exact R2.out) (by omega)).mono ?_
  rintro e w32 ⟨Ap, cp, rfl, hm, hb⟩
  replace HB := Lib.hid (bstep HB.out (Nat.le_refl _) hb)
  replace R1 := Lib.hid (R1.out.step0 hb)
  replace R2 := Lib.hid (R2.out.step0 hb)
  replace R3 := Lib.hid (R3.out.step0 hb)
  obtain ⟨np, hnp⟩ : ∃ n, n = List.length (mulL (l1) (l2)) := ⟨_, rfl⟩
  rw [← hnp] at hm ⊢
  have Hp := Lib.hid hnp.symm
  have Rp := Lib.hid hm.rd
  have kp := hm.cap.1
  have Kp := Lib.hid hm.cap.2
  have bdp : np ≤ n1 + n2 := by rw [hnp, ← H1.out, ← H2.out]; exact mulL_length _ _
  clear hm hb hnp
  go_wp2_with fail
  refine (at_any Ap np cp (mulL (l1) (l2)) x _ Hp.out (by omega) (by exact Rp.out)).mono ?_
  rintro e w33 ⟨rfl, hb⟩
  replace HB := Lib.hid (bstep HB.out (Nat.le_refl _) hb)
  replace R1 := Lib.hid (R1.out.step0 hb)
  replace R2 := Lib.hid (R2.out.step0 hb)
  replace R3 := Lib.hid (R3.out.step0 hb)
  replace Rp := Lib.hid (Rp.out.step0 hb)
  clear hb
  rw [E6.out]
  go_wp2_with fail
  refine (at_any A1 n1 c1 (l1) x _ H1.out (by omega) (by exact R1.out)).mono ?_
  rintro e w34 ⟨rfl, hb⟩
  replace HB := Lib.hid (bstep HB.out (Nat.le_refl _) hb)
  replace R1 := Lib.hid (R1.out.step0 hb)
  replace R2 := Lib.hid (R2.out.step0 hb)
  replace R3 := Lib.hid (R3.out.step0 hb)
  replace Rp := Lib.hid (Rp.out.step0 hb)
  clear hb
  rw [HU.out]
  go_wp2_with fail
  refine (at_any A2 n2 c2 (l2) x _ H2.out (by omega) (by exact R2.out)).mono ?_
  rintro e w35 ⟨rfl, hb⟩
  replace HB := Lib.hid (bstep HB.out (Nat.le_refl _) hb)
  replace R1 := Lib.hid (R1.out.step0 hb)
  replace R2 := Lib.hid (R2.out.step0 hb)
  replace R3 := Lib.hid (R3.out.step0 hb)
  replace Rp := Lib.hid (Rp.out.step0 hb)
  clear hb
  rw [HV.out]
  clear Rp
  go_wp2_with fail
  refine (rmul_any _ _ u v _ rfl rfl).mono ?_
  rintro e w70 ⟨rfl, rfl⟩
  go_wp2_with fail
  refine (padd_any A1 A2 n1 n2 c1 c2 (l1) (l2) _ H1.out H2.out (by exact R1.out) (by exact R2.out) (by omega) (by omega)).mono ?_
  rintro e w36 ⟨Aq, cq, rfl, hm, hb⟩
  replace HB := Lib.hid (bstep HB.out (Nat.le_refl _) hb)
  replace R1 := Lib.hid (R1.out.step0 hb)
  replace R2 := Lib.hid (R2.out.step0 hb)
  replace R3 := Lib.hid (R3.out.step0 hb)
  obtain ⟨nq, hnq⟩ : ∃ n, n = List.length (addL (l1) (l2)) := ⟨_, rfl⟩
  rw [← hnq] at hm ⊢
  have Hq := Lib.hid hnq.symm
  have Rq := Lib.hid hm.rd
  have kq := hm.cap.1
  have Kq := Lib.hid hm.cap.2
  have bdq : nq ≤ max n1 n2 := by rw [hnq, ← H1.out, ← H2.out]; exact addL_length _ _
  clear hm hb hnq
  go_wp2_with fail
  have hmc := Kq.out
  refine (slope_any Aq nq cq (addL (l1) (l2)) _ Hq.out (by exact Rq.out) (by omega) kq hmc).mono ?_
  rintro e w37 ⟨Ar, cr, rfl, hm, hb⟩
  replace HB := Lib.hid (bstep HB.out (Nat.le_refl _) hb)
  replace R1 := Lib.hid (R1.out.step0 hb)
  replace R2 := Lib.hid (R2.out.step0 hb)
  replace R3 := Lib.hid (R3.out.step0 hb)
  replace Rq := Lib.hid (Rq.out.step0 hb)
  obtain ⟨nr, hnr⟩ : ∃ n, n = List.length (slopeL (addL (l1) (l2))) := ⟨_, rfl⟩
  rw [← hnr] at hm ⊢
  have Hr := Lib.hid hnr.symm
  have Rr := Lib.hid hm.rd
  have kr := hm.cap.1
  have Kr := Lib.hid hm.cap.2
  have bdr : nr ≤ nq - 1 := by rw [hnr, ← Hq.out]; exact slopeL_length _
  clear hm hb hnr
  clear hmc
  go_wp2_with fail
  have hmc := M1.out
  refine (slope_any A1 n1 c1 (l1) _ H1.out (by exact R1.out) (by omega) hc1 hmc).mono ?_
  rintro e w38 ⟨As, cs, rfl, hm, hb⟩
  replace HB := Lib.hid (bstep HB.out (Nat.le_refl _) hb)
  replace R1 := Lib.hid (R1.out.step0 hb)
  replace R2 := Lib.hid (R2.out.step0 hb)
  replace R3 := Lib.hid (R3.out.step0 hb)
  replace Rq := Lib.hid (Rq.out.step0 hb)
  replace Rr := Lib.hid (Rr.out.step0 hb)
  obtain ⟨ns, hns⟩ : ∃ n, n = List.length (slopeL (l1)) := ⟨_, rfl⟩
  rw [← hns] at hm ⊢
  have Hs := Lib.hid hns.symm
  have Rs := Lib.hid hm.rd
  have ks := hm.cap.1
  have Ks := Lib.hid hm.cap.2
  have bds : ns ≤ n1 - 1 := by rw [hns, ← H1.out]; exact slopeL_length _
  clear hm hb hns
  clear hmc
  go_wp2_with fail
  have hmc := M2.out
  refine (slope_any A2 n2 c2 (l2) _ H2.out (by exact R2.out) (by omega) hc2 hmc).mono ?_
  rintro e w39 ⟨At, ct, rfl, hm, hb⟩
  replace HB := Lib.hid (bstep HB.out (Nat.le_refl _) hb)
  replace R1 := Lib.hid (R1.out.step0 hb)
  replace R2 := Lib.hid (R2.out.step0 hb)
  replace R3 := Lib.hid (R3.out.step0 hb)
  replace Rq := Lib.hid (Rq.out.step0 hb)
  replace Rr := Lib.hid (Rr.out.step0 hb)
  replace Rs := Lib.hid (Rs.out.step0 hb)
  obtain ⟨nt, hnt⟩ : ∃ n, n = List.length (slopeL (l2)) := ⟨_, rfl⟩
  rw [← hnt] at hm ⊢
  have Ht := Lib.hid hnt.symm
  have Rt := Lib.hid hm.rd
  have kt := hm.cap.1
  have Kt := Lib.hid hm.cap.2
  have bdt : nt ≤ n2 - 1 := by rw [hnt, ← H2.out]; exact slopeL_length _
  clear hm hb hnt
  clear hmc
  go_wp2_with fail
  refine (padd_any As At ns nt cs ct (slopeL (l1)) (slopeL (l2)) _ Hs.out Ht.out (by exact Rs.out) (by exact Rt.out) (by omega) (by omega)).mono ?_
  rintro e w40 ⟨Ay, cy, rfl, hm, hb⟩
  replace HB := Lib.hid (bstep HB.out (Nat.le_refl _) hb)
  replace R1 := Lib.hid (R1.out.step0 hb)
  replace R2 := Lib.hid (R2.out.step0 hb)
  replace R3 := Lib.hid (R3.out.step0 hb)
  replace Rq := Lib.hid (Rq.out.step0 hb)
  replace Rr := Lib.hid (Rr.out.step0 hb)
  replace Rs := Lib.hid (Rs.out.step0 hb)
  replace Rt := Lib.hid (Rt.out.step0 hb)
  obtain ⟨ny, hny⟩ : ∃ n, n = List.length (addL (slopeL (l1)) (slopeL (l2))) := ⟨_, rfl⟩
  rw [← hny] at hm ⊢
  have Hy := Lib.hid hny.symm
  have Ry := Lib.hid hm.rd
  have ky := hm.cap.1
  have Ky := Lib.hid hm.cap.2
  have bdy : ny ≤ max ns nt := by rw [hny, ← Hs.out, ← Ht.out]; exact addL_length _ _
  clear hm hb hny
  go_wp2_with fail
  refine (same_any Ar Ay nr cr ny cy _ _ (slopeL (addL (l1) (l2))) (addL (slopeL (l1)) (slopeL (l2))) _ Hr.out Hy.out (by exact Rr.out) (by exact Ry.out) (Nat.le_refl _) (Nat.le_refl _) (by unfold maxLen; omega)).mono ?_
  rintro e w41 ⟨rfl, hb⟩
  rw [decide_eq_true E7.out]
  replace HB := Lib.hid (bstep HB.out (Nat.le_refl _) hb)
  replace R1 := Lib.hid (R1.out.step0 hb)
  replace R2 := Lib.hid (R2.out.step0 hb)
  replace R3 := Lib.hid (R3.out.step0 hb)
  replace Rq := Lib.hid (Rq.out.step0 hb)
  replace Rr := Lib.hid (Rr.out.step0 hb)
  replace Rs := Lib.hid (Rs.out.step0 hb)
  replace Rt := Lib.hid (Rt.out.step0 hb)
  replace Ry := Lib.hid (Ry.out.step0 hb)
  clear hb
  clear Rq Rr Rs Rt Ry
  go_wp2_with fail
  refine (pmul_any A1 A2 n1 n2 c1 c2 (l1) (l2) _ H1.out H2.out (by exact R1.out) (by exact R2.out) (by omega)).mono ?_
  rintro e w42 ⟨Az, cz, rfl, hm, hb⟩
  replace HB := Lib.hid (bstep HB.out (Nat.le_refl _) hb)
  replace R1 := Lib.hid (R1.out.step0 hb)
  replace R2 := Lib.hid (R2.out.step0 hb)
  replace R3 := Lib.hid (R3.out.step0 hb)
  obtain ⟨nz, hnz⟩ : ∃ n, n = List.length (mulL (l1) (l2)) := ⟨_, rfl⟩
  rw [← hnz] at hm ⊢
  have Hz := Lib.hid hnz.symm
  have Rz := Lib.hid hm.rd
  have kz := hm.cap.1
  have Kz := Lib.hid hm.cap.2
  have bdz : nz ≤ n1 + n2 := by rw [hnz, ← H1.out, ← H2.out]; exact mulL_length _ _
  clear hm hb hnz
  go_wp2_with fail
  have hmc := Kz.out
  refine (slope_any Az nz cz (mulL (l1) (l2)) _ Hz.out (by exact Rz.out) (by omega) kz hmc).mono ?_
  rintro e w43 ⟨Aaa, caa, rfl, hm, hb⟩
  replace HB := Lib.hid (bstep HB.out (Nat.le_refl _) hb)
  replace R1 := Lib.hid (R1.out.step0 hb)
  replace R2 := Lib.hid (R2.out.step0 hb)
  replace R3 := Lib.hid (R3.out.step0 hb)
  replace Rz := Lib.hid (Rz.out.step0 hb)
  obtain ⟨naa, hnaa⟩ : ∃ n, n = List.length (slopeL (mulL (l1) (l2))) := ⟨_, rfl⟩
  rw [← hnaa] at hm ⊢
  have Haa := Lib.hid hnaa.symm
  have Raa := Lib.hid hm.rd
  have kaa := hm.cap.1
  have Kaa := Lib.hid hm.cap.2
  have bdaa : naa ≤ nz - 1 := by rw [hnaa, ← Hz.out]; exact slopeL_length _
  clear hm hb hnaa
  clear hmc
  go_wp2_with fail
  have hmc := M2.out
  refine (slope_any A2 n2 c2 (l2) _ H2.out (by exact R2.out) (by omega) hc2 hmc).mono ?_
  rintro e w44 ⟨Abb, cbb, rfl, hm, hb⟩
  replace HB := Lib.hid (bstep HB.out (Nat.le_refl _) hb)
  replace R1 := Lib.hid (R1.out.step0 hb)
  replace R2 := Lib.hid (R2.out.step0 hb)
  replace R3 := Lib.hid (R3.out.step0 hb)
  replace Rz := Lib.hid (Rz.out.step0 hb)
  replace Raa := Lib.hid (Raa.out.step0 hb)
  obtain ⟨nbb, hnbb⟩ : ∃ n, n = List.length (slopeL (l2)) := ⟨_, rfl⟩
  rw [← hnbb] at hm ⊢
  have Hbb := Lib.hid hnbb.symm
  have Rbb := Lib.hid hm.rd
  have kbb := hm.cap.1
  have Kbb := Lib.hid hm.cap.2
  have bdbb : nbb ≤ n2 - 1 := by rw [hnbb, ← H2.out]; exact slopeL_length _
  clear hm hb hnbb
  clear hmc
  go_wp2_with fail
  refine (pmul_any A1 Abb n1 nbb c1 cbb (l1) (slopeL (l2)) _ H1.out Hbb.out (by exact R1.out) (by exact Rbb.out) (by omega)).mono ?_
  rintro e w45 ⟨Add, cdd, rfl, hm, hb⟩
  replace HB := Lib.hid (bstep HB.out (Nat.le_refl _) hb)
  replace R1 := Lib.hid (R1.out.step0 hb)
  replace R2 := Lib.hid (R2.out.step0 hb)
  replace R3 := Lib.hid (R3.out.step0 hb)
  replace Rz := Lib.hid (Rz.out.step0 hb)
  replace Raa := Lib.hid (Raa.out.step0 hb)
  replace Rbb := Lib.hid (Rbb.out.step0 hb)
  obtain ⟨ndd, hndd⟩ : ∃ n, n = List.length (mulL (l1) (slopeL (l2))) := ⟨_, rfl⟩
  rw [← hndd] at hm ⊢
  have Hdd := Lib.hid hndd.symm
  have Rdd := Lib.hid hm.rd
  have kdd := hm.cap.1
  have Kdd := Lib.hid hm.cap.2
  have bddd : ndd ≤ n1 + nbb := by rw [hndd, ← H1.out, ← Hbb.out]; exact mulL_length _ _
  clear hm hb hndd
  go_wp2_with fail
  have hmc := M1.out
  refine (slope_any A1 n1 c1 (l1) _ H1.out (by exact R1.out) (by omega) hc1 hmc).mono ?_
  rintro e w46 ⟨Aee, cee, rfl, hm, hb⟩
  replace HB := Lib.hid (bstep HB.out (Nat.le_refl _) hb)
  replace R1 := Lib.hid (R1.out.step0 hb)
  replace R2 := Lib.hid (R2.out.step0 hb)
  replace R3 := Lib.hid (R3.out.step0 hb)
  replace Rz := Lib.hid (Rz.out.step0 hb)
  replace Raa := Lib.hid (Raa.out.step0 hb)
  replace Rbb := Lib.hid (Rbb.out.step0 hb)
  replace Rdd := Lib.hid (Rdd.out.step0 hb)
  obtain ⟨nee, hnee⟩ : ∃ n, n = List.length (slopeL (l1)) := ⟨_, rfl⟩
  rw [← hnee] at hm ⊢
  have Hee := Lib.hid hnee.symm
  have Ree := Lib.hid hm.rd
  have kee := hm.cap.1
  have Kee := Lib.hid hm.cap.2
  have bdee : nee ≤ n1 - 1 := by rw [hnee, ← H1.out]; exact slopeL_length _
  clear hm hb hnee
  clear hmc
  go_wp2_with fail
  refine (pmul_any A2 Aee n2 nee c2 cee (l2) (slopeL (l1)) _ H2.out Hee.out (by exact R2.out) (by exact Ree.out) (by omega)).mono ?_
  rintro e w47 ⟨Aff, cff, rfl, hm, hb⟩
  replace HB := Lib.hid (bstep HB.out (Nat.le_refl _) hb)
  replace R1 := Lib.hid (R1.out.step0 hb)
  replace R2 := Lib.hid (R2.out.step0 hb)
  replace R3 := Lib.hid (R3.out.step0 hb)
  replace Rz := Lib.hid (Rz.out.step0 hb)
  replace Raa := Lib.hid (Raa.out.step0 hb)
  replace Rbb := Lib.hid (Rbb.out.step0 hb)
  replace Rdd := Lib.hid (Rdd.out.step0 hb)
  replace Ree := Lib.hid (Ree.out.step0 hb)
  obtain ⟨nff, hnff⟩ : ∃ n, n = List.length (mulL (l2) (slopeL (l1))) := ⟨_, rfl⟩
  rw [← hnff] at hm ⊢
  have Hff := Lib.hid hnff.symm
  have Rff := Lib.hid hm.rd
  have kff := hm.cap.1
  have Kff := Lib.hid hm.cap.2
  have bdff : nff ≤ n2 + nee := by rw [hnff, ← H2.out, ← Hee.out]; exact mulL_length _ _
  clear hm hb hnff
  go_wp2_with fail
  refine (padd_any Add Aff ndd nff cdd cff (mulL (l1) (slopeL (l2))) (mulL (l2) (slopeL (l1))) _ Hdd.out Hff.out (by exact Rdd.out) (by exact Rff.out) (by omega) (by omega)).mono ?_
  rintro e w48 ⟨Agg, cgg, rfl, hm, hb⟩
  replace HB := Lib.hid (bstep HB.out (Nat.le_refl _) hb)
  replace R1 := Lib.hid (R1.out.step0 hb)
  replace R2 := Lib.hid (R2.out.step0 hb)
  replace R3 := Lib.hid (R3.out.step0 hb)
  replace Rz := Lib.hid (Rz.out.step0 hb)
  replace Raa := Lib.hid (Raa.out.step0 hb)
  replace Rbb := Lib.hid (Rbb.out.step0 hb)
  replace Rdd := Lib.hid (Rdd.out.step0 hb)
  replace Ree := Lib.hid (Ree.out.step0 hb)
  replace Rff := Lib.hid (Rff.out.step0 hb)
  obtain ⟨ngg, hngg⟩ : ∃ n, n = List.length (addL (mulL (l1) (slopeL (l2))) (mulL (l2) (slopeL (l1)))) := ⟨_, rfl⟩
  rw [← hngg] at hm ⊢
  have Hgg := Lib.hid hngg.symm
  have Rgg := Lib.hid hm.rd
  have kgg := hm.cap.1
  have Kgg := Lib.hid hm.cap.2
  have bdgg : ngg ≤ max ndd nff := by rw [hngg, ← Hdd.out, ← Hff.out]; exact addL_length _ _
  clear hm hb hngg
  go_wp2_with fail
  refine (same_any Aaa Agg naa caa ngg cgg _ _ (slopeL (mulL (l1) (l2))) (addL (mulL (l1) (slopeL (l2))) (mulL (l2) (slopeL (l1)))) _ Haa.out Hgg.out (by exact Raa.out) (by exact Rgg.out) (Nat.le_refl _) (Nat.le_refl _) (by unfold maxLen; omega)).mono ?_
  rintro e w49 ⟨rfl, hb⟩
  rw [decide_eq_true E8.out]
  replace HB := Lib.hid (bstep HB.out (Nat.le_refl _) hb)
  replace R1 := Lib.hid (R1.out.step0 hb)
  replace R2 := Lib.hid (R2.out.step0 hb)
  replace R3 := Lib.hid (R3.out.step0 hb)
  replace Rz := Lib.hid (Rz.out.step0 hb)
  replace Raa := Lib.hid (Raa.out.step0 hb)
  replace Rbb := Lib.hid (Rbb.out.step0 hb)
  replace Rdd := Lib.hid (Rdd.out.step0 hb)
  replace Ree := Lib.hid (Ree.out.step0 hb)
  replace Rff := Lib.hid (Rff.out.step0 hb)
  replace Rgg := Lib.hid (Rgg.out.step0 hb)
  clear hb
  go_wp2_with fail
  go_ret
  exact ⟨rfl, HB.out⟩
end Go.Proofs.Ytneciddigglnmaa
