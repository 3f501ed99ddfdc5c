/- The walk of the statement PolyShift: noughts ahead of the coefficients. -/
import Derived.Test.YtneciddigglnmaaPl2
import Derived.Test.YtneciddigglnmaaRw
namespace Go.Proofs.Ytneciddigglnmaa
open Go.RowKit

theorem modp (m : Int) (q : Int) (hq : 0 < q) (hq2 : q ≤ 1000) : ∃ k : Nat, wrap64 ((IntKind.u64.wrap m).tmod q) = (k : Int) ∧ (k : Int) < q := by
  have h0 : 0 ≤ IntKind.u64.wrap m := by rw [IntKind.wrap_u64]; omega
  have h1 : 0 ≤ (IntKind.u64.wrap m).tmod q := Int.tmod_nonneg q h0
  have h2 : (IntKind.u64.wrap m).tmod q < q := Int.tmod_lt_of_pos _ hq
  refine ⟨((IntKind.u64.wrap m).tmod q).toNat, ?_, by omega⟩
  rw [IntWalk.wrap64_in _ ⟨by omega, by omega⟩]; omega
theorem pv_up (k : Nat) (l : List F) (x : F) : pv (List.replicate k 0 ++ l) x = F.pow x k * pv l x := by
  rw [pv_append, pv_zeros, F.zero_add, List.length_replicate]
theorem short_up (k : Nat) (l : List F) (h : k + l.length ≤ 20000) : shortL (List.replicate k 0 ++ l) = mulL l (List.replicate k 0 ++ [1]) :=
  mulL_eq (by simp; omega) (by simp; omega) fun x => by rw [pv_up, pv_up, pv_single, F.mul_one, F.mul_comm]

set_option maxRecDepth 100000 in
set_option maxHeartbeats 8000000 in
theorem shift_nat (A1 : Option Addr) (n1 c1 : Nat) (l1 : List F) (x : F) (m : Int) (k : Nat) (w : World) (h1 : l1.length = n1) (hr1 : Rd w w.heap.size A1 l1) (_hm1 : n1 ≤ 9223372036854775807)
    (hk : wrap64 ((IntKind.u64.wrap m).tmod 40) = (k : Int)) (hk2 : k ≤ 39) :
    Calls Try.prog 4 #[.slice A1 n1 c1, .int .u16 x.nat, .int .i64 m] w fun e w' => e = .returned (.bool true) ∧ Below w.heap.size w w' := by
  have H1 := Lib.hid h1
  have R1 := Lib.hid hr1
  clear h1 hr1
  go_enter Try.func4, Try.ntmps4
  go_wp2_with (first
    | (go_at_call 10; refine (awake_any _).mono ?_; rintro e w' ⟨rfl, hbn⟩; (first | (replace hbw := bstep hbw (Nat.le_refl _) hbn; clear hbn) | (have hbw := hbn; clear hbn)))
    | (at_make; refine wpList_mk _ rfl _ _ rfl _ _ _ k rfl rfl (by first | rfl | exact hk) (by first | rfl | exact hk) (by omega) (Nat.le_refl _) ?_; intro w3 hown3 hg3; have hb3 := (Below.refl _ _).grown hg3 (Nat.le_refl _) (by simp); clear hg3)
    | (at_builtin; refine wpList_ext _ rfl _ _ rfl _ _ k _ _ rfl hown3 A1 n1 c1 w.heap.size l1 rfl H1.out (R1.out.below (hbw.trans (hb3.mono hbw.size))) (by omega) hb3.size ?_; intro A4 c4 w4 hown4 hb4 hg4; have hb34 := hb3.trans hb4; replace hbw := bstep hbw (Nat.le_refl _) hb34; have O4 := Lib.hid hown4; clear hown3 hown4 hb3 hb4 hg4 hb34)
    | (at_builtin; refine wpList_push _ rfl _ _ rfl _ _ k _ _ rfl (hown3.alloc _) _ 1 (1 : F) 1 rfl rfl (by go_cell) (by omega) (Nat.le_trans hb3.size (by simp)) ?_; intro A5 c5 w5 hown5 hb5 hg5; have O5 := Lib.hid hown5; have hb35 := (hb3.alloc hb3.size _).trans hb5; replace O4 := Lib.hid (O4.out.below hb35); replace hbw := bstep hbw (Nat.le_refl _) hb35; clear hown3 hown5 hb3 hb5 hg5 hb35))
  all_goals first | (go_ret; exact ⟨rfl, hbw⟩) | skip
  have n1m : n1 ≤ 60 := by omega
  have HU := Lib.hid (short_up k l1 (by rw [H1.out]; omega))
  have HP := Lib.hid (pv_up k l1 x)
  have LU := Lib.hid (show (List.replicate k (0 : F) ++ l1).length = k + n1 by rw [List.length_append, List.length_replicate, H1.out])
  have LZ := Lib.hid (show (List.replicate k (0 : F) ++ [1]).length = k + 1 by rw [List.length_append, List.length_replicate]; rfl)
  generalize List.replicate k (0 : F) ++ l1 = up at O4 HU HP LU
  generalize List.replicate k (0 : F) ++ [1] = zz at O5 HU LZ
  replace R1 := Lib.hid ((R1.out.below hbw).more hbw.size)
  have HB := Lib.hid hbw
  have RU := Lib.hid O4.out.rd
  have RZ := Lib.hid O5.out.rd
  have kU := O4.out.cap.1
  have kZ := O5.out.cap.1
  clear hbw O4 O5
  go_loopw [10, 11] (fun v j wr => ∃ i : Nat, i ≤ k ∧ j = .int .i64 i ∧ v = .int .u16 (F.pow x i).nat ∧ Below w5.heap.size w5 wr) (fun _ j _ => k - (intOf j).toNat)
  case atStart => exact ⟨0, by omega, rfl, rfl, Below.refl _ _⟩
  case round =>
    obtain ⟨i, hi, rfl, rfl, hb⟩ := hrel
    by_cases hik : i < k
    · have HPS := Lib.hid (F.pow_succ x i)
      generalize F.pow x i = y at HPS
      go_wp2_with (go_at_call 14; refine (rmul_any _ _ y x _ rfl rfl).mono ?_; rintro e w6 ⟨rfl, rfl⟩)
      go_roundw
      case rel => exact ⟨i + 1, by omega, by go_num, by rw [HPS.out], hb⟩
      case measure => simp only [intOf]; omega
    · obtain rfl : i = k := by omega
      replace HB := Lib.hid (bstep HB.out (Nat.le_refl _) hb)
      replace R1 := Lib.hid (R1.out.step0 hb)
      replace RU := Lib.hid (RU.out.step0 hb)
      replace RZ := Lib.hid (RZ.out.step0 hb)
      generalize F.pow x i = y at HP ⊢
      clear hb
      go_wp2_with fail
      refine (short_any A4 (i + n1) c4 up _ LU.out (by exact RU.out) (by omega) kU).mono ?_
      rintro e w21 ⟨As, cs, rfl, hm, hb⟩
      replace HB := Lib.hid (bstep HB.out (Nat.le_refl _) hb)
      replace R1 := Lib.hid (R1.out.step0 hb)
      replace RU := Lib.hid (RU.out.step0 hb)
      replace RZ := Lib.hid (RZ.out.step0 hb)
      obtain ⟨ns, hns⟩ : ∃ n, n = List.length (shortL up) := ⟨_, rfl⟩
      rw [← hns] at hm ⊢
      have Hs := Lib.hid hns.symm
      have Rs := Lib.hid hm.rd
      have ks := hm.cap.1
      clear hm hb hns
      go_wp2_with fail
      refine (pmul_any A1 A5 n1 (i + 1) c1 c5 l1 zz _ H1.out LZ.out (by exact R1.out) (by exact RZ.out) (by omega)).mono ?_
      rintro e w22 ⟨Ap, cp, rfl, hm, hb⟩
      replace HB := Lib.hid (bstep HB.out (Nat.le_refl _) hb)
      replace R1 := Lib.hid (R1.out.step0 hb)
      replace RU := Lib.hid (RU.out.step0 hb)
      replace RZ := Lib.hid (RZ.out.step0 hb)
      replace Rs := Lib.hid (Rs.out.step0 hb)
      obtain ⟨np, hnp⟩ : ∃ n, n = List.length (mulL l1 zz) := ⟨_, rfl⟩
      rw [← hnp] at hm ⊢
      have Hp := Lib.hid hnp.symm
      have Rp := Lib.hid hm.rd
      have kp := hm.cap.1
      clear hm hb hnp
      go_wp2_with fail
      have bs' : ns ≤ i + n1 := by rw [← Hs.out, ← LU.out]; exact shortL_length _
      refine (same_any As Ap ns cs np cp _ _ (shortL up) (mulL l1 zz) _ Hs.out Hp.out (by exact Rs.out) (by exact Rp.out) (Nat.le_refl _) (Nat.le_refl _) (by unfold maxLen; omega)).mono ?_
      rintro e w25 ⟨rfl, hb⟩
      rw [decide_eq_true HU.out]
      replace HB := Lib.hid (bstep HB.out (Nat.le_refl _) hb)
      replace R1 := Lib.hid (R1.out.step0 hb)
      replace RU := Lib.hid (RU.out.step0 hb)
      replace RZ := Lib.hid (RZ.out.step0 hb)
      replace Rs := Lib.hid (Rs.out.step0 hb)
      replace Rp := Lib.hid (Rp.out.step0 hb)
      clear hb Rs Rp Hs Hp
      go_wp2_with fail
      refine (at_any A4 (i + n1) c4 up x _ LU.out (by omega) (by exact RU.out)).mono ?_
      rintro e w26 ⟨rfl, hb⟩
      rw [HP.out]
      replace HB := Lib.hid (bstep HB.out (Nat.le_refl _) hb)
      replace R1 := Lib.hid (R1.out.step0 hb)
      replace RU := Lib.hid (RU.out.step0 hb)
      clear hb
      go_wp2_with fail
      refine (at_any A1 n1 c1 l1 x _ H1.out (by omega) (by exact R1.out)).mono ?_
      rintro e w27 ⟨rfl, hb⟩
      replace HB := Lib.hid (bstep HB.out (Nat.le_refl _) hb)
      replace R1 := Lib.hid (R1.out.step0 hb)
      replace RU := Lib.hid (RU.out.step0 hb)
      clear hb
      generalize pv l1 x = z
      go_wp2_with fail
      refine (rmul_any _ _ y z _ rfl rfl).mono ?_
      rintro e w28 ⟨rfl, rfl⟩
      go_wp2_with fail
      go_ret
      exact ⟨rfl, HB.out⟩

theorem shift_walk (A1 : Option Addr) (n1 c1 : Nat) (l1 : List F) (x : F) (m : Int) (w : World) (h1 : l1.length = n1) (hr1 : Rd w w.heap.size A1 l1) (hm1 : n1 ≤ 9223372036854775807) :
    Calls Try.prog 4 #[.slice A1 n1 c1, .int .u16 x.nat, .int .i64 m] w fun e w' => e = .returned (.bool true) ∧ Below w.heap.size w w' := by
  obtain ⟨k, hk, hk2⟩ := modp m 40 (by omega) (by omega)
  exact shift_nat A1 n1 c1 l1 x m k w h1 hr1 hm1 hk (by omega)
end Go.Proofs.Ytneciddigglnmaa
