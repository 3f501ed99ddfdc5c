/- The walk of the statement PolyDegree: degrees of sums and products. -/
import Derived.Test.YtneciddigglnmaaPl
namespace Go.Proofs.Ytneciddigglnmaa
open Go.RowKit

set_option maxRecDepth 100000 in
set_option maxHeartbeats 8000000 in
theorem degree_walk (A1 A2 : Option Addr) (n1 n2 c1 c2 : Nat) (l1 l2 : List F) (w : World) (h1 : l1.length = n1) (h2 : l2.length = n2) (hr1 : Rd w w.heap.size A1 l1) (hr2 : Rd w w.heap.size A2 l2) (hc1 : n1 ≤ c1) (hc2 : n2 ≤ c2) (_hm1 : n1 ≤ 9223372036854775807) (_hm2 : n2 ≤ 9223372036854775807) :
    Calls Try.prog 9 #[.slice A1 n1 c1, .slice A2 n2 c2] w fun e w' => e = .returned (.bool true) ∧ Below w.heap.size w w' := by
  have H1 := Lib.hid h1
  have H2 := Lib.hid h2
  have R1 := Lib.hid hr1
  have R2 := Lib.hid hr2
  clear h1 h2 hr1 hr2
  go_enter Try.func9, Try.ntmps9
  go_wp2_with (first
    | (go_at_call 10; refine (awake_any _).mono ?_; rintro e w' ⟨rfl, hbn⟩; (first | (replace hbw := bstep hbw (Nat.le_refl _) hbn; clear hbn) | (have hbw := hbn; clear hbn))))
  all_goals first | (go_ret; exact ⟨rfl, hbw⟩) | skip
  have HB := Lib.hid hbw
  replace R1 := Lib.hid (R1.out.step0 hbw)
  replace R2 := Lib.hid (R2.out.step0 hbw)
  clear hbw
  have m1 : n1 ≤ 60 := by omega
  have m2 : n2 ≤ 60 := by omega
  refine (short_any A1 n1 c1 l1 _ H1.out (by exact R1.out) (by omega) hc1).mono ?_
  rintro e w1 ⟨Ax, cx, rfl, hm, hb⟩
  replace HB := Lib.hid (bstep HB.out (Nat.le_refl _) hb)
  replace R1 := Lib.hid (R1.out.step0 hb)
  replace R2 := Lib.hid (R2.out.step0 hb)
  obtain ⟨nx, hnx⟩ : ∃ n, n = List.length (shortL l1) := ⟨_, rfl⟩
  rw [← hnx] at hm ⊢
  have Hx := Lib.hid hnx.symm
  have Rx := Lib.hid hm.rd
  have kx := hm.cap.1
  have bdx : nx ≤ n1 := by rw [hnx, ← H1.out]; exact shortL_length _
  clear hm hb hnx
  go_wp2_with fail
  refine (short_any A2 n2 c2 l2 _ H2.out (by exact R2.out) (by omega) hc2).mono ?_
  rintro e w2 ⟨Ay, cy, rfl, hm, hb⟩
  replace HB := Lib.hid (bstep HB.out (Nat.le_refl _) hb)
  replace R1 := Lib.hid (R1.out.step0 hb)
  replace R2 := Lib.hid (R2.out.step0 hb)
  replace Rx := Lib.hid (Rx.out.step0 hb)
  obtain ⟨ny, hny⟩ : ∃ n, n = List.length (shortL l2) := ⟨_, rfl⟩
  rw [← hny] at hm ⊢
  have Hy := Lib.hid hny.symm
  have Ry := Lib.hid hm.rd
  have ky := hm.cap.1
  have bdy : ny ≤ n2 := by rw [hny, ← H2.out]; exact shortL_length _
  clear hm hb hny
  go_wp2_with fail
  refine (pmul_any A1 A2 n1 n2 c1 c2 l1 l2 _ H1.out H2.out (by exact R1.out) (by exact R2.out) (by omega)).mono ?_
  rintro e w3 ⟨Ap, cp, rfl, hm, hb⟩
  replace HB := Lib.hid (bstep HB.out (Nat.le_refl _) hb)
  replace R1 := Lib.hid (R1.out.step0 hb)
  replace R2 := Lib.hid (R2.out.step0 hb)
  replace Rx := Lib.hid (Rx.out.step0 hb)
  replace Ry := Lib.hid (Ry.out.step0 hb)
  obtain ⟨np, hnp⟩ : ∃ n, n = List.length (mulL l1 l2) := ⟨_, rfl⟩
  rw [← hnp] at hm ⊢
  have Hp := Lib.hid hnp.symm
  have kp := hm.cap.1
  have bdp : np ≤ n1 + n2 := by rw [hnp, ← H1.out, ← H2.out]; exact mulL_length _ _
  clear hm hb hnp
  go_wp2_with fail
  refine (padd_any A1 A2 n1 n2 c1 c2 l1 l2 _ H1.out H2.out (by exact R1.out) (by exact R2.out) (by omega) (by omega)).mono ?_
  rintro e w4 ⟨As, cs, rfl, hm, hb⟩
  replace HB := Lib.hid (bstep HB.out (Nat.le_refl _) hb)
  replace R1 := Lib.hid (R1.out.step0 hb)
  replace R2 := Lib.hid (R2.out.step0 hb)
  replace Rx := Lib.hid (Rx.out.step0 hb)
  replace Ry := Lib.hid (Ry.out.step0 hb)
  obtain ⟨ns, hns⟩ : ∃ n, n = List.length (addL l1 l2) := ⟨_, rfl⟩
  rw [← hns] at hm ⊢
  have Hs := Lib.hid hns.symm
  have ks := hm.cap.1
  have bds : ns ≤ max n1 n2 := by rw [hns, ← H1.out, ← H2.out]; exact addL_length _ _
  clear hm hb hns
  clear R1 R2
  have hl : l1.length + l2.length ≤ 60000 := by rw [H1.out, H2.out]; omega
  by_cases x0 : nx = 0
  · have e1 : np = 0 := by rw [← Hp.out]; exact mul_none_left _ _ hl (by rw [Hx.out]; exact x0)
    have e2 : ns = ny := by rw [← Hs.out, ← Hy.out]; exact add_none_left _ _ (by rw [Hx.out]; exact x0)
    clear hl
    subst x0 e1 e2
    go_wp2_with fail
    all_goals (go_ret; exact ⟨rfl, HB.out⟩)
  by_cases y0 : ny = 0
  · have e1 : np = 0 := by rw [← Hp.out]; exact mul_none_right _ _ hl (by rw [Hy.out]; exact y0)
    have e2 : ns = nx := by rw [← Hs.out, ← Hx.out]; exact add_none_right _ _ (by rw [Hy.out]; exact y0)
    clear hl
    subst y0 e1 e2
    go_wp2_with fail
    all_goals (go_ret; exact ⟨rfl, HB.out⟩)
  have d1 : np = nx + ny - 1 := by rw [← Hp.out, ← Hx.out, ← Hy.out]; exact mul_degree _ _ hl (by rw [Hx.out]; omega) (by rw [Hy.out]; omega)
  have d2 : ns ≤ max nx ny := by rw [← Hs.out, ← Hx.out, ← Hy.out]; exact add_degree _ _
  have d3 : nx ≠ ny → ns = max nx ny := fun h => by rw [← Hs.out, ← Hx.out, ← Hy.out]; exact add_degree_ne _ _ (by rw [Hx.out, Hy.out]; exact h)
  clear hl
  have hsame := Lib.hid (shortL_shortL l1)
  have hlast := Lib.hid (shortL_short l1 (by rw [Hx.out]; omega))
  have q1 : IntKind.i64.wrap ((nx : Int) + (ny : Int)) = (nx : Int) + (ny : Int) := IntWalk.i64_in _ ⟨by omega, by omega⟩
  have q2 : IntKind.i64.wrap ((nx : Int) + (ny : Int) - 1) = (nx : Int) + (ny : Int) - 1 := IntWalk.i64_in _ ⟨by omega, by omega⟩
  have t1 : ((np : Int) != (nx : Int) + (ny : Int) - 1) = false := by rw [bne_eq_false_iff_eq]; omega
  have z0 : 0 < nx := by omega
  have z0' : 0 < ny := by omega
  have t2 : ((nx : Int) == 0) = false := by rw [beq_eq_false_iff_ne]; omega
  have t3 : ((ny : Int) == 0) = false := by rw [beq_eq_false_iff_ne]; omega
  clear d1 x0 y0 bdp bds
  rcases Nat.lt_trichotomy nx ny with hh | hh | hh

  · obtain rfl : ns = ny := by rw [d3 (by omega)]; omega
    clear d2 d3
    go_wp2_with fail
    refine (short_any Ax nx cx (shortL l1) _ Hx.out (by exact Rx.out) (by omega) kx).mono ?_
    rintro e w11 ⟨Au, cu, rfl, hm, hb⟩
    replace HB := Lib.hid (bstep HB.out (Nat.le_refl _) hb)
    replace Rx := Lib.hid (Rx.out.step0 hb)
    replace Ry := Lib.hid (Ry.out.step0 hb)
    obtain ⟨nu, hnu⟩ : ∃ n, n = List.length (shortL (shortL l1)) := ⟨_, rfl⟩
    rw [← hnu] at hm ⊢
    have Hu := Lib.hid hnu.symm
    have Ru := Lib.hid hm.rd
    have ku := hm.cap.1
    clear hm hb hnu
    have eu : nu = nx := by rw [← Hu.out, hsame.out]; exact Hx.out
    subst eu
    rw [hsame.out] at Ru
    go_wp2_with fail
    refine (same_any Au Ax nu cu nu cx _ _ (shortL l1) (shortL l1) _ Hx.out Hx.out (by exact Ru.out) (by exact Rx.out) (Nat.le_refl _) (Nat.le_refl _) (by unfold maxLen; omega)).mono ?_
    rintro e w12 ⟨rfl, hb⟩
    rw [decide_eq_true rfl]
    replace HB := Lib.hid (bstep HB.out (Nat.le_refl _) hb)
    replace Rx := Lib.hid (Rx.out.step0 hb)
    replace Ry := Lib.hid (Ry.out.step0 hb)
    replace Ru := Lib.hid (Ru.out.step0 hb)
    clear hb
    obtain ⟨g, off, rfl, hg, hcell⟩ := Rx.out (by rw [Hx.out]; exact z0)
    have hc0 := hcell (nu - 1) (by rw [Hx.out]; omega)
    have hne := fne0' (show ¬ (shortL l1).getD (nu - 1) 0 = 0 by have := hlast.out; rwa [Hx.out] at this)
    clear hcell
    generalize (shortL l1).getD (nu - 1) 0 = y at hc0 hne
    have z1 : (0 : Int) ≤ (nu : Int) - 1 := by omega
    have z2 : (nu : Int) - 1 < (nu : Int) := by omega
    have z3 : ((nu : Int) - 1).toNat = nu - 1 := by omega
    have z4 : IntKind.i64.wrap ((nu : Int) - 1) = (nu : Int) - 1 := IntWalk.i64_in _ ⟨by omega, by omega⟩
    go_wp2_with fail
    go_ret
    exact ⟨rfl, HB.out⟩
  · subst hh
    have d4 : ns ≤ nx := by omega
    clear d2 d3
    go_wp2_with fail
    refine (short_any Ax nx cx (shortL l1) _ Hx.out (by exact Rx.out) (by omega) kx).mono ?_
    rintro e w11 ⟨Au, cu, rfl, hm, hb⟩
    replace HB := Lib.hid (bstep HB.out (Nat.le_refl _) hb)
    replace Rx := Lib.hid (Rx.out.step0 hb)
    replace Ry := Lib.hid (Ry.out.step0 hb)
    obtain ⟨nu, hnu⟩ : ∃ n, n = List.length (shortL (shortL l1)) := ⟨_, rfl⟩
    rw [← hnu] at hm ⊢
    have Hu := Lib.hid hnu.symm
    have Ru := Lib.hid hm.rd
    have ku := hm.cap.1
    clear hm hb hnu
    have eu : nu = nx := by rw [← Hu.out, hsame.out]; exact Hx.out
    subst eu
    rw [hsame.out] at Ru
    go_wp2_with fail
    refine (same_any Au Ax nu cu nu cx _ _ (shortL l1) (shortL l1) _ Hx.out Hx.out (by exact Ru.out) (by exact Rx.out) (Nat.le_refl _) (Nat.le_refl _) (by unfold maxLen; omega)).mono ?_
    rintro e w12 ⟨rfl, hb⟩
    rw [decide_eq_true rfl]
    replace HB := Lib.hid (bstep HB.out (Nat.le_refl _) hb)
    replace Rx := Lib.hid (Rx.out.step0 hb)
    replace Ry := Lib.hid (Ry.out.step0 hb)
    replace Ru := Lib.hid (Ru.out.step0 hb)
    clear hb
    obtain ⟨g, off, rfl, hg, hcell⟩ := Rx.out (by rw [Hx.out]; exact z0)
    have hc0 := hcell (nu - 1) (by rw [Hx.out]; omega)
    have hne := fne0' (show ¬ (shortL l1).getD (nu - 1) 0 = 0 by have := hlast.out; rwa [Hx.out] at this)
    clear hcell
    generalize (shortL l1).getD (nu - 1) 0 = y at hc0 hne
    have z1 : (0 : Int) ≤ (nu : Int) - 1 := by omega
    have z2 : (nu : Int) - 1 < (nu : Int) := by omega
    have z3 : ((nu : Int) - 1).toNat = nu - 1 := by omega
    have z4 : IntKind.i64.wrap ((nu : Int) - 1) = (nu : Int) - 1 := IntWalk.i64_in _ ⟨by omega, by omega⟩
    go_wp2_with fail
    go_ret
    exact ⟨rfl, HB.out⟩
  · obtain rfl : nx = ns := by rw [d3 (by omega)]; omega
    clear d2 d3
    go_wp2_with fail
    refine (short_any Ax nx cx (shortL l1) _ Hx.out (by exact Rx.out) (by omega) kx).mono ?_
    rintro e w11 ⟨Au, cu, rfl, hm, hb⟩
    replace HB := Lib.hid (bstep HB.out (Nat.le_refl _) hb)
    replace Rx := Lib.hid (Rx.out.step0 hb)
    replace Ry := Lib.hid (Ry.out.step0 hb)
    obtain ⟨nu, hnu⟩ : ∃ n, n = List.length (shortL (shortL l1)) := ⟨_, rfl⟩
    rw [← hnu] at hm ⊢
    have Hu := Lib.hid hnu.symm
    have Ru := Lib.hid hm.rd
    have ku := hm.cap.1
    clear hm hb hnu
    have eu : nu = nx := by rw [← Hu.out, hsame.out]; exact Hx.out
    subst eu
    rw [hsame.out] at Ru
    go_wp2_with fail
    refine (same_any Au Ax nu cu nu cx _ _ (shortL l1) (shortL l1) _ Hx.out Hx.out (by exact Ru.out) (by exact Rx.out) (Nat.le_refl _) (Nat.le_refl _) (by unfold maxLen; omega)).mono ?_
    rintro e w12 ⟨rfl, hb⟩
    rw [decide_eq_true rfl]
    replace HB := Lib.hid (bstep HB.out (Nat.le_refl _) hb)
    replace Rx := Lib.hid (Rx.out.step0 hb)
    replace Ry := Lib.hid (Ry.out.step0 hb)
    replace Ru := Lib.hid (Ru.out.step0 hb)
    clear hb
    obtain ⟨g, off, rfl, hg, hcell⟩ := Rx.out (by rw [Hx.out]; exact z0)
    have hc0 := hcell (nu - 1) (by rw [Hx.out]; omega)
    have hne := fne0' (show ¬ (shortL l1).getD (nu - 1) 0 = 0 by have := hlast.out; rwa [Hx.out] at this)
    clear hcell
    generalize (shortL l1).getD (nu - 1) 0 = y at hc0 hne
    have z1 : (0 : Int) ≤ (nu : Int) - 1 := by omega
    have z2 : (nu : Int) - 1 < (nu : Int) := by omega
    have z3 : ((nu : Int) - 1).toNat = nu - 1 := by omega
    have z4 : IntKind.i64.wrap ((nu : Int) - 1) = (nu : Int) - 1 := IntWalk.i64_in _ ⟨by omega, by omega⟩
    go_wp2_with fail
    go_ret
    exact ⟨rfl, HB.out⟩
end Go.Proofs.Ytneciddigglnmaa
