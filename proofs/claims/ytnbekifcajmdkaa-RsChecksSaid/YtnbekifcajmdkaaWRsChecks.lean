/- The walk of the statement RsChecks: checks, values, and whether a word is right, are the document's. -/
import Derived.Test.YtnbekifcajmdkaaRsk
namespace Go.Proofs.Ytnbekifcajmdkaa
open Go.RowKit

/-- make([]uint16, 0, m). -/
theorem wpList_mk0 {ops : Array Oper} {rest : List Oper} {o : Oper} {a : Act} {Q : Exit → Act → World → Prop} (w : World)
    (hg : o.guard = none) (l c : Operand) (hop : o.op = Op.makeSlice 23 l c)
    (C : Int) (n : Nat) (hl : a.eval l = .int .i64 0) (hc : a.eval c = .int .i64 C) (hC : C = (n : Int)) (b2 : n ≤ 100000000)
    (hK : ∀ w', Own w' w.heap.size (some ⟨w.heap.size, 0, none⟩) 0 n [] → w.grownBy w' none → wpList Try.prog ops Q rest (a.put o.dst (.slice (some ⟨w.heap.size, 0, none⟩) 0 n)) w') :
    wpList Try.prog ops Q (o :: rest) a w := by
  obtain ⟨i0, hi0, hz0, hz1, hz2⟩ := info_parts u16_info
  refine wpList_make_own w hg l c 23 hop w.heap.size 27 i0 (.int .u16 0) 1 Try.underlying23 hi0 hz0 hz1 .i64 .i64 C n hl hc hC ?_ ?_ (Nat.le_refl _) fun w' h1 h2 => hK w' ⟨rfl, h1⟩ h2
  · rw [hz2]; omega
  · unfold maxLen; omega
theorem wrap_field (z : Int) : ∃ a : F, IntKind.u16.wrap z = (a.nat : Int) := by
  have h := IntKind.wrap_u16 z
  refine ⟨F.ofNat (IntKind.u16.wrap z).toNat, ?_⟩
  rw [F.nat_ofNat (by omega)]
  omega

theorem Own.set_far {w : World} {B n c : Nat} {A : Option Addr} {l : List F} (h : Own w B A n c l) {p : Addr} (hp : p.block < B) (u : Value) : Own (w.setCell p u) B A n c l := by
  refine ⟨h.1, h.2.1, ?_⟩
  rcases h.2.2 with h2 | ⟨g', cap, cur, hv, hb, hg, h3⟩
  · exact .inl h2
  · exact .inr ⟨g', cap, cur, hv, hb, by rw [Below.heap_setCell w p u g' (by omega)]; exact hg, h3⟩

set_option maxRecDepth 100000 in
set_option maxHeartbeats 8000000 in
theorem checks_bad (A : Option Addr) (n c : Nat) (r : Int) (l : List F) (w : World) (hl : l.length = n) (hrd : Rd w w.heap.size A l) (hn6 : n ≤ 600) (hx : r < 0 ∨ 255 < r ∨ 255 < n) :
    Calls Try.prog 4 #[.slice A n c, .int .i64 r] w fun e w' => e = .returned (.bool true) ∧ Below w.heap.size w w' := by
  have HL := Lib.hid hl
  have HRD := Lib.hid hrd
  have HX := Lib.hid hx
  clear hx
  clear hl hrd
  go_enter Try.func4, Try.ntmps4
  go_wp2_with (first
    | (at_make; refine wpList_mk0 _ rfl _ _ rfl _ (n + 300) rfl rfl (by omega) (by omega) ?_; intro w1 hown1 hg1)
    | (at_builtin; refine wpList_ext _ rfl _ _ rfl w.heap.size _ 0 (n + 300) [] rfl hown1 A n c w.heap.size l rfl HL.out (by exact HRD.out.below ((Below.refl _ _).grown hg1 (Nat.le_refl _) (by simp))) (by omega) (((Below.refl w.heap.size w).grown hg1 (Nat.le_refl _) (by simp)).size) ?_; intro Ai ci w2 hown2 hb2 hg2))
  have hb02 := ((Below.refl w.heap.size w).grown hg1 (Nat.le_refl _) (by simp)).trans hb2
  rw [Nat.zero_add, List.nil_append] at hown2
  have HW := Lib.hid hb02
  have RA := Lib.hid ((HRD.out.below hb02).more hb02.size)
  have RI := Lib.hid hown2.rd
  clear hown1 hg1 hown2 hb2 hg2 hb02
  have HB := Lib.hid (Below.refl w2.heap.size w2)
  refine (rcheck_bad A n c r _ (by have := HX.out; omega) (by omega)).mono ?_
  rintro e w3 ⟨rfl, rfl⟩
  go_wp2_with fail
  refine (rsums_bad A n c r _ (by have := HX.out; omega)).mono ?_
  rintro e w4 ⟨rfl, rfl⟩
  go_wp2_with fail
  replace HW := Lib.hid (bstep HW.out (Nat.le_refl _) HB.out)
  replace RA := Lib.hid ((RA.out.below HB.out).more HB.out.size)
  replace RI := Lib.hid ((RI.out.below HB.out).more HB.out.size)
  clear HB
  obtain ⟨bb, hbb⟩ : ∃ bb, rightB l r = bb := ⟨_, rfl⟩
  have HBB := Lib.hid hbb
  clear hbb
  go_loopw [10] (fun v wr => ∃ k : Nat, k ≤ 2 ∧ v = .int .i64 k ∧ Below w2.heap.size w2 wr) (fun v _ => 2 - (intOf v).toNat)
  case atStart => exact ⟨0, by omega, rfl, Below.refl _ _⟩
  case round =>
    obtain ⟨wB, rfl⟩ : ∃ wB, wB = wr := ⟨_, rfl⟩
    obtain ⟨k, hk, rfl, hb0⟩ := hrel
    have HB := Lib.hid hb0
    have hBsz := hb0.size
    clear hb0
    by_cases hk2 : k < 2
    · go_wp2_with fail
      refine (check_bad Ai n ci r _ (by have := HX.out; omega)).mono ?_
      rintro e w9 ⟨rfl, rfl⟩
      go_wp2_with fail
      refine (sums_bad Ai n ci r _ (by have := HX.out; omega)).mono ?_
      rintro e w9 ⟨rfl, rfl⟩
      go_wp2_with fail
      refine (same_any none none 0 0 0 0 _ _ [] [] _ rfl rfl Rd.nil Rd.nil (Nat.le_refl _) (Nat.le_refl _) (by unfold maxLen; omega)).mono ?_
      rintro e w11 ⟨rfl, hb⟩
      rw [decide_eq_true rfl]
      replace HB := Lib.hid (bstep HB.out (Nat.le_refl _) hb)
      clear hb
      go_wp2_with fail
      refine (same_any none none 0 0 0 0 _ _ [] [] _ rfl rfl Rd.nil Rd.nil (Nat.le_refl _) (Nat.le_refl _) (by unfold maxLen; omega)).mono ?_
      rintro e w12 ⟨rfl, hb⟩
      rw [decide_eq_true rfl]
      replace HB := Lib.hid (bstep HB.out (Nat.le_refl _) hb)
      clear hb
      go_wp2_with fail
      refine (right_any Ai n ci r l _ HL.out (by exact (RI.out.below HB.out).more HB.out.size)).mono ?_
      rintro e w13 ⟨rfl, hb⟩
      rw [HBB.out]
      replace HB := Lib.hid (bstep HB.out (Nat.le_refl _) hb)
      clear hb
      go_wp2_with fail
      refine (rright_any A n c r l _ HL.out (by exact (RA.out.below HB.out).more HB.out.size) (by omega)).mono ?_
      rintro e w14 ⟨rfl, hb⟩
      rw [HBB.out]
      replace HB := Lib.hid (bstep HB.out (Nat.le_refl _) hb)
      clear hb
      go_wp2_with fail
      refine (same_any Ai A n ci n c _ _ l l _ HL.out HL.out (by exact (RI.out.below HB.out).more HB.out.size) (by exact (RA.out.below HB.out).more HB.out.size) (Nat.le_refl _) (Nat.le_refl _) (by unfold maxLen; omega)).mono ?_
      rintro e w15 ⟨rfl, hb⟩
      rw [decide_eq_true rfl]
      replace HB := Lib.hid (bstep HB.out (Nat.le_refl _) hb)
      clear hb
      go_wp2_with fail
      go_loopw [15] (fun v wr => v = .int .i64 0 ∧  Below w2.heap.size w2 wr) (fun v _ => 0)
      case atStart => exact ⟨rfl,  HB.out⟩
      case round =>
        obtain ⟨rfl,  hbr⟩ := hrel
        have HBR := Lib.hid hbr
        clear hbr
        go_wp2_with fail
        go_loopw [16] (fun v wr => v = .int .i64 0 ∧ Below w2.heap.size w2 wr) (fun v _ => 0)
        case atStart => exact ⟨rfl, HBR.out⟩
        case round =>
          obtain ⟨rfl, hb⟩ := hrel
          have HBD := Lib.hid hb
          clear hb
          go_wp2
          go_roundw
          case rel => exact ⟨k + 1, by omega, by go_num, HBD.out⟩
          case measure => simp only [intOf]; omega
    · obtain rfl : k = 2 := by omega
      go_wp2
      go_ret
      exact ⟨rfl, bstep HW.out (Nat.le_refl _) HB.out⟩

set_option maxRecDepth 100000 in
set_option maxHeartbeats 8000000 in
theorem checks_mid (A : Option Addr) (n c : Nat) (r : Nat) (l : List F) (w : World) (hl : l.length = n) (hrd : Rd w w.heap.size A l) (hn6 : n ≤ 600) (hx : 255 < n + r) (_hr : r ≤ 255) (_hn : n ≤ 255) :
    Calls Try.prog 4 #[.slice A n c, .int .i64 r] w fun e w' => e = .returned (.bool true) ∧ Below w.heap.size w w' := by
  have HL := Lib.hid hl
  have HRD := Lib.hid hrd
  have HX := Lib.hid hx
  clear hx
  clear hl hrd
  go_enter Try.func4, Try.ntmps4
  go_wp2_with (first
    | (at_make; refine wpList_mk0 _ rfl _ _ rfl _ (n + 300) rfl rfl (by omega) (by omega) ?_; intro w1 hown1 hg1)
    | (at_builtin; refine wpList_ext _ rfl _ _ rfl w.heap.size _ 0 (n + 300) [] rfl hown1 A n c w.heap.size l rfl HL.out (by exact HRD.out.below ((Below.refl _ _).grown hg1 (Nat.le_refl _) (by simp))) (by omega) (((Below.refl w.heap.size w).grown hg1 (Nat.le_refl _) (by simp)).size) ?_; intro Ai ci w2 hown2 hb2 hg2))
  have hb02 := ((Below.refl w.heap.size w).grown hg1 (Nat.le_refl _) (by simp)).trans hb2
  rw [Nat.zero_add, List.nil_append] at hown2
  have HW := Lib.hid hb02
  have RA := Lib.hid ((HRD.out.below hb02).more hb02.size)
  have RI := Lib.hid hown2.rd
  clear hown1 hg1 hown2 hb2 hg2 hb02
  have HB := Lib.hid (Below.refl w2.heap.size w2)
  refine (rcheck_bad A n c r _ (by have := HX.out; omega) (by omega)).mono ?_
  rintro e w3 ⟨rfl, rfl⟩
  go_wp2_with fail
  refine (rsums_ok A n c r l _ HL.out (by exact (RA.out.below HB.out).more HB.out.size) (by omega) (by omega)).mono ?_
  rintro e w4 ⟨Ab, cb, rfl, hm, hb⟩
  rw [show (sumsL l r).length = r from tab_length _ _] at hm ⊢
  have RCb := Lib.hid hm.rd
  replace HB := Lib.hid (bstep HB.out (Nat.le_refl _) hb)
  clear hm hb
  go_wp2_with fail
  replace HW := Lib.hid (bstep HW.out (Nat.le_refl _) HB.out)
  replace RA := Lib.hid ((RA.out.below HB.out).more HB.out.size)
  replace RI := Lib.hid ((RI.out.below HB.out).more HB.out.size)
  clear HB
  obtain ⟨bb, hbb⟩ : ∃ bb, rightB l r = bb := ⟨_, rfl⟩
  have HBB := Lib.hid hbb
  clear hbb
  go_loopw [10] (fun v wr => ∃ k : Nat, k ≤ 2 ∧ v = .int .i64 k ∧ Below w4.heap.size w4 wr) (fun v _ => 2 - (intOf v).toNat)
  case atStart => exact ⟨0, by omega, rfl, Below.refl _ _⟩
  case round =>
    obtain ⟨wB, rfl⟩ : ∃ wB, wB = wr := ⟨_, rfl⟩
    obtain ⟨k, hk, rfl, hb0⟩ := hrel
    have HB := Lib.hid hb0
    have hBsz := hb0.size
    clear hb0
    by_cases hk2 : k < 2
    · go_wp2_with fail
      refine (check_bad Ai n ci r _ (by have := HX.out; omega)).mono ?_
      rintro e w9 ⟨rfl, rfl⟩
      go_wp2_with fail
      refine (sums_ok Ai n ci r l _ HL.out (by exact (RI.out.below HB.out).more HB.out.size) (by omega) (by omega)).mono ?_
      rintro e wd ⟨Ad, cd, rfl, hm, hb⟩
      rw [show (sumsL l r).length = r from tab_length _ _] at hm ⊢
      have OD := Lib.hid hm
      have kd := hm.cap.1
      replace HB := Lib.hid (bstep HB.out (Nat.le_refl _) hb)
      clear hb
      clear hm
      go_wp2_with fail
      refine (same_any none none 0 0 0 0 _ _ [] [] _ rfl rfl Rd.nil Rd.nil (Nat.le_refl _) (Nat.le_refl _) (by unfold maxLen; omega)).mono ?_
      rintro e w11 ⟨rfl, hb⟩
      rw [decide_eq_true rfl]
      replace OD := Lib.hid (OD.out.below hb)
      replace HB := Lib.hid (bstep HB.out (Nat.le_refl _) hb)
      clear hb
      go_wp2_with fail
      refine (same_any Ab Ad r cb r cd _ _ (sumsL l r) (sumsL l r) _ (tab_length _ _) (tab_length _ _) (by exact (RCb.out.below HB.out).more HB.out.size) (by exact OD.out.rd) (Nat.le_refl _) (Nat.le_refl _) (by unfold maxLen; omega)).mono ?_
      rintro e w12 ⟨rfl, hb⟩
      rw [decide_eq_true rfl]
      replace OD := Lib.hid (OD.out.below hb)
      replace HB := Lib.hid (bstep HB.out (Nat.le_refl _) hb)
      clear hb
      go_wp2_with fail
      refine (right_any Ai n ci r l _ HL.out (by exact (RI.out.below HB.out).more HB.out.size)).mono ?_
      rintro e w13 ⟨rfl, hb⟩
      rw [HBB.out]
      replace OD := Lib.hid (OD.out.below hb)
      replace HB := Lib.hid (bstep HB.out (Nat.le_refl _) hb)
      clear hb
      go_wp2_with fail
      refine (rright_any A n c r l _ HL.out (by exact (RA.out.below HB.out).more HB.out.size) (by omega)).mono ?_
      rintro e w14 ⟨rfl, hb⟩
      rw [HBB.out]
      replace OD := Lib.hid (OD.out.below hb)
      replace HB := Lib.hid (bstep HB.out (Nat.le_refl _) hb)
      clear hb
      go_wp2_with fail
      refine (same_any Ai A n ci n c _ _ l l _ HL.out HL.out (by exact (RI.out.below HB.out).more HB.out.size) (by exact (RA.out.below HB.out).more HB.out.size) (Nat.le_refl _) (Nat.le_refl _) (by unfold maxLen; omega)).mono ?_
      rintro e w15 ⟨rfl, hb⟩
      rw [decide_eq_true rfl]
      replace OD := Lib.hid (OD.out.below hb)
      replace HB := Lib.hid (bstep HB.out (Nat.le_refl _) hb)
      clear hb
      go_wp2_with fail
      go_loopw [15] (fun v wr => v = .int .i64 0 ∧ Own wr wB.heap.size Ad r cd (sumsL l r) ∧ Below w4.heap.size w4 wr) (fun v _ => 0)
      case atStart => exact ⟨rfl, OD.out, HB.out⟩
      case round =>
        obtain ⟨rfl, hod, hbr⟩ := hrel
        have HOD := Lib.hid hod
        clear hod
        have HBR := Lib.hid hbr
        clear hbr
        go_wp2_with fail
        go_loopw [16] (fun v wr => ∃ (i : Nat) (dl : List F), i ≤ r ∧ v = .int .i64 i ∧ Own wr wB.heap.size Ad r cd dl ∧ Below w4.heap.size w4 wr) (fun v _ => r - (intOf v).toNat)
        case atStart => exact ⟨0, _, by omega, rfl, HOD.out, HBR.out⟩
        case round =>
          obtain ⟨i, dl, hi, rfl, ho, hb⟩ := hrel
          have HBD := Lib.hid hb
          clear hb
          by_cases hir : i < r
          · obtain ⟨g, rfl, hg, _⟩ := ho.form (by omega)
            have cx := ho.cell hir
            have fx := ho.frozen i
            have HO := Lib.hid ho
            clear ho
            generalize dl.getD i 0 = y at cx
            obtain ⟨y2, hy2⟩ := wrap_field ((y.nat : Int) + 7)
            have q1 : (0 : Int) ≤ (i : Int) := by omega
            have q2 : (i : Int) < (r : Int) := by omega
            go_wp2
            go_roundw
            case rel => exact ⟨i + 1, _, by omega, by go_num, HO.out.store i y2 rfl, HBD.out.setCell (p := ⟨g, i, none⟩) (show w4.heap.size ≤ g by omega) _⟩
            case measure => simp only [intOf]; omega
          · obtain rfl : r = i := by omega
            go_wp2
            go_roundw
            case rel => exact ⟨k + 1, by omega, by go_num, HBD.out⟩
            case measure => simp only [intOf]; omega
    · obtain rfl : k = 2 := by omega
      go_wp2
      go_ret
      exact ⟨rfl, bstep HW.out (Nat.le_refl _) HB.out⟩

set_option maxRecDepth 100000 in
set_option maxHeartbeats 8000000 in
theorem checks_ok (A : Option Addr) (n c : Nat) (r : Nat) (l : List F) (w : World) (hl : l.length = n) (hrd : Rd w w.heap.size A l) (hn6 : n ≤ 600) (hx : n + r ≤ 255) :
    Calls Try.prog 4 #[.slice A n c, .int .i64 r] w fun e w' => e = .returned (.bool true) ∧ Below w.heap.size w w' := by
  have HL := Lib.hid hl
  have HRD := Lib.hid hrd
  have HX := Lib.hid hx
  have hnr := hx
  clear hx
  clear hl hrd
  go_enter Try.func4, Try.ntmps4
  go_wp2_with (first
    | (at_make; refine wpList_mk0 _ rfl _ _ rfl _ (n + 300) rfl rfl (by omega) (by omega) ?_; intro w1 hown1 hg1)
    | (at_builtin; refine wpList_ext _ rfl _ _ rfl w.heap.size _ 0 (n + 300) [] rfl hown1 A n c w.heap.size l rfl HL.out (by exact HRD.out.below ((Below.refl _ _).grown hg1 (Nat.le_refl _) (by simp))) (by omega) (((Below.refl w.heap.size w).grown hg1 (Nat.le_refl _) (by simp)).size) ?_; intro Ai ci w2 hown2 hb2 hg2))
  have hb02 := ((Below.refl w.heap.size w).grown hg1 (Nat.le_refl _) (by simp)).trans hb2
  rw [Nat.zero_add, List.nil_append] at hown2
  have HW := Lib.hid hb02
  have RA := Lib.hid ((HRD.out.below hb02).more hb02.size)
  have RI := Lib.hid hown2.rd
  clear hown1 hg1 hown2 hb2 hg2 hb02
  have HB := Lib.hid (Below.refl w2.heap.size w2)
  refine (rcheck_ok A n c r l _ HL.out (by exact (RA.out.below HB.out).more HB.out.size) HX.out).mono ?_
  rintro e w3 ⟨Aa, ca, rfl, hm, hb⟩
  rw [checkL_length] at hm ⊢
  have RCa := Lib.hid hm.rd
  replace HB := Lib.hid (bstep HB.out (Nat.le_refl _) hb)
  clear hm hb
  go_wp2_with fail
  refine (rsums_ok A n c r l _ HL.out (by exact (RA.out.below HB.out).more HB.out.size) (by omega) (by omega)).mono ?_
  rintro e w4 ⟨Ab, cb, rfl, hm, hb⟩
  rw [show (sumsL l r).length = r from tab_length _ _] at hm ⊢
  have RCb := Lib.hid hm.rd
  replace HB := Lib.hid (bstep HB.out (Nat.le_refl _) hb)
  replace RCa := Lib.hid ((RCa.out.below hb).more hb.size)
  clear hm hb
  go_wp2_with fail
  replace HW := Lib.hid (bstep HW.out (Nat.le_refl _) HB.out)
  replace RA := Lib.hid ((RA.out.below HB.out).more HB.out.size)
  replace RI := Lib.hid ((RI.out.below HB.out).more HB.out.size)
  clear HB
  obtain ⟨bb, hbb⟩ : ∃ bb, rightB l r = bb := ⟨_, rfl⟩
  have HBB := Lib.hid hbb
  clear hbb
  go_loopw [10] (fun v wr => ∃ k : Nat, k ≤ 2 ∧ v = .int .i64 k ∧ Below w4.heap.size w4 wr) (fun v _ => 2 - (intOf v).toNat)
  case atStart => exact ⟨0, by omega, rfl, Below.refl _ _⟩
  case round =>
    obtain ⟨wB, rfl⟩ : ∃ wB, wB = wr := ⟨_, rfl⟩
    obtain ⟨k, hk, rfl, hb0⟩ := hrel
    have HB := Lib.hid hb0
    have hBsz := hb0.size
    clear hb0
    by_cases hk2 : k < 2
    · go_wp2_with fail
      refine (check_ok Ai n ci r l _ HL.out (by exact (RI.out.below HB.out).more HB.out.size) HX.out).mono ?_
      rintro e wc ⟨Ac, cc, rfl, hm, hb⟩
      obtain ⟨gc, offc, Nc, hform⟩ : ∃ g off N, 0 < r → Ac = some ⟨g, off, none⟩ ∧ off + r ≤ N ∧ g < wc.heap.size ∧ wB.heap.size ≤ g ∧ ∃ row, Own wc wB.heap.size (some ⟨g, 0, none⟩) N N row := by
        rcases Nat.eq_zero_or_pos r with h0 | h0
        · exact ⟨0, 0, 0, fun h => by omega⟩
        · obtain ⟨g, off, N, row, hA, ho, hle, _⟩ := hm (by rw [checkL_length]; exact h0)
          rw [checkL_length] at hle
          obtain ⟨g', e', hg1, hg2⟩ := ho.form (by omega)
          injection e' with e'; injection e' with e'; subst e'
          exact ⟨g, off, N, fun _ => ⟨hA, hle, hg2, hg1, row, ho⟩⟩
      rw [checkL_length]
      have HF := Lib.hid hform
      have RC := Lib.hid hm.rd
      have HWC := Lib.hid (Below.refl wc.heap.size wc)
      have hcsz := hb.size
      replace HB := Lib.hid (bstep HB.out (Nat.le_refl _) hb)
      clear hb
      clear hm hform
      go_wp2_with fail
      refine (sums_ok Ai n ci r l _ HL.out (by exact (RI.out.below HB.out).more HB.out.size) (by omega) (by omega)).mono ?_
      rintro e wd ⟨Ad, cd, rfl, hm, hb⟩
      rw [show (sumsL l r).length = r from tab_length _ _] at hm ⊢
      have OD := Lib.hid hm
      have kd := hm.cap.1
      replace RC := Lib.hid ((RC.out.below hb).more hb.size)
      replace HWC := Lib.hid (bstep HWC.out (Nat.le_refl _) hb)
      replace HB := Lib.hid (bstep HB.out (Nat.le_refl _) hb)
      clear hb
      clear hm
      go_wp2_with fail
      refine (same_any Aa Ac r ca r cc _ _ (checkL l r) (checkL l r) _ (checkL_length l r) (checkL_length l r) (by exact (RCa.out.below HB.out).more HB.out.size) (by exact RC.out) (Nat.le_refl _) (Nat.le_refl _) (by unfold maxLen; omega)).mono ?_
      rintro e w11 ⟨rfl, hb⟩
      rw [decide_eq_true rfl]
      replace RC := Lib.hid ((RC.out.below hb).more hb.size)
      replace HWC := Lib.hid (bstep HWC.out (Nat.le_refl _) hb)
      replace OD := Lib.hid (OD.out.below hb)
      replace HB := Lib.hid (bstep HB.out (Nat.le_refl _) hb)
      clear hb
      go_wp2_with fail
      refine (same_any Ab Ad r cb r cd _ _ (sumsL l r) (sumsL l r) _ (tab_length _ _) (tab_length _ _) (by exact (RCb.out.below HB.out).more HB.out.size) (by exact OD.out.rd) (Nat.le_refl _) (Nat.le_refl _) (by unfold maxLen; omega)).mono ?_
      rintro e w12 ⟨rfl, hb⟩
      rw [decide_eq_true rfl]
      replace RC := Lib.hid ((RC.out.below hb).more hb.size)
      replace HWC := Lib.hid (bstep HWC.out (Nat.le_refl _) hb)
      replace OD := Lib.hid (OD.out.below hb)
      replace HB := Lib.hid (bstep HB.out (Nat.le_refl _) hb)
      clear hb
      go_wp2_with fail
      refine (right_any Ai n ci r l _ HL.out (by exact (RI.out.below HB.out).more HB.out.size)).mono ?_
      rintro e w13 ⟨rfl, hb⟩
      rw [HBB.out]
      replace RC := Lib.hid ((RC.out.below hb).more hb.size)
      replace HWC := Lib.hid (bstep HWC.out (Nat.le_refl _) hb)
      replace OD := Lib.hid (OD.out.below hb)
      replace HB := Lib.hid (bstep HB.out (Nat.le_refl _) hb)
      clear hb
      go_wp2_with fail
      refine (rright_any A n c r l _ HL.out (by exact (RA.out.below HB.out).more HB.out.size) (by omega)).mono ?_
      rintro e w14 ⟨rfl, hb⟩
      rw [HBB.out]
      replace RC := Lib.hid ((RC.out.below hb).more hb.size)
      replace HWC := Lib.hid (bstep HWC.out (Nat.le_refl _) hb)
      replace OD := Lib.hid (OD.out.below hb)
      replace HB := Lib.hid (bstep HB.out (Nat.le_refl _) hb)
      clear hb
      go_wp2_with fail
      refine (same_any Ai A n ci n c _ _ l l _ HL.out HL.out (by exact (RI.out.below HB.out).more HB.out.size) (by exact (RA.out.below HB.out).more HB.out.size) (Nat.le_refl _) (Nat.le_refl _) (by unfold maxLen; omega)).mono ?_
      rintro e w15 ⟨rfl, hb⟩
      rw [decide_eq_true rfl]
      replace RC := Lib.hid ((RC.out.below hb).more hb.size)
      replace HWC := Lib.hid (bstep HWC.out (Nat.le_refl _) hb)
      replace OD := Lib.hid (OD.out.below hb)
      replace HB := Lib.hid (bstep HB.out (Nat.le_refl _) hb)
      clear hb
      go_wp2_with fail
      clear RC
      go_loopw [15] (fun v wr => ∃ i : Nat, i ≤ r ∧ v = .int .i64 i ∧ Hid (0 < r → ∃ row, Own wr wB.heap.size (some ⟨gc, 0, none⟩) Nc Nc row) ∧ Own wr wc.heap.size Ad r cd (sumsL l r) ∧ Below w4.heap.size w4 wr) (fun v _ => r - (intOf v).toNat)
      case atStart => exact ⟨0, by omega, rfl, Lib.hid fun h => by
        obtain ⟨_, _, _, _, row, ho⟩ := HF.out h
        exact ⟨row, ho.below HWC.out⟩, OD.out, HB.out⟩
      case round =>
        obtain ⟨i, hi, rfl, HR, hod, hbr⟩ := hrel
        have HOD := Lib.hid hod
        have HBR := Lib.hid hbr
        clear hod hbr
        by_cases hir : i < r
        · obtain ⟨hA, hle, hgc, hgB, _⟩ := HF.out (by omega)
          subst hA
          obtain ⟨row, ho⟩ := HR.out (by omega)
          have cx := ho.cell (j := offc + i) (by omega)
          have fx := ho.frozen (offc + i)
          have HO := Lib.hid ho
          clear ho
          generalize row.getD (offc + i) 0 = y at cx
          obtain ⟨y2, hy2⟩ := wrap_field ((y.nat : Int) + 7)
          have q1 : (0 : Int) ≤ (i : Int) := by omega
          have q2 : (i : Int) < (r : Int) := by omega
          go_wp2
          go_roundw
          case rel => exact ⟨i + 1, by omega, by go_num, Lib.hid fun _ => ⟨_, HO.out.store (offc + i) y2 rfl⟩, HOD.out.set_far (p := ⟨gc, offc + i, none⟩) hgc _, HBR.out.setCell (p := ⟨gc, offc + i, none⟩) (Nat.le_trans hBsz hgB) _⟩
          case measure => simp only [intOf]; omega
        · obtain rfl : r = i := by omega
          go_wp2_with fail
          go_loopw [16] (fun v wr => ∃ (i : Nat) (dl : List F), i ≤ r ∧ v = .int .i64 i ∧ Own wr wc.heap.size Ad r cd dl ∧ Below w4.heap.size w4 wr) (fun v _ => r - (intOf v).toNat)
          case atStart => exact ⟨0, _, by omega, rfl, HOD.out, HBR.out⟩
          case round =>
            obtain ⟨i, dl, hi, rfl, ho, hb⟩ := hrel
            have HBD := Lib.hid hb
            clear hb
            by_cases hir : i < r
            · obtain ⟨g, rfl, hg, _⟩ := ho.form (by omega)
              have cx := ho.cell hir
              have fx := ho.frozen i
              have HO := Lib.hid ho
              clear ho
              generalize dl.getD i 0 = y at cx
              obtain ⟨y2, hy2⟩ := wrap_field ((y.nat : Int) + 7)
              have q1 : (0 : Int) ≤ (i : Int) := by omega
              have q2 : (i : Int) < (r : Int) := by omega
              go_wp2
              go_roundw
              case rel => exact ⟨i + 1, _, by omega, by go_num, HO.out.store i y2 rfl, HBD.out.setCell (p := ⟨g, i, none⟩) (show w4.heap.size ≤ g by omega) _⟩
              case measure => simp only [intOf]; omega
            · obtain rfl : r = i := by omega
              go_wp2
              go_roundw
              case rel => exact ⟨k + 1, by omega, by go_num, HBD.out⟩
              case measure => simp only [intOf]; omega
    · obtain rfl : k = 2 := by omega
      go_wp2
      go_ret
      exact ⟨rfl, bstep HW.out (Nat.le_refl _) HB.out⟩

theorem checks_walk (A : Option Addr) (n c : Nat) (r : Int) (l : List F) (w : World) (hl : l.length = n) (hrd : Rd w w.heap.size A l) (hm : n ≤ 9223372036854775807) :
    Calls Try.prog 4 #[.slice A n c, .int .i64 r] w fun e w' => e = .returned (.bool true) ∧ Below w.heap.size w w' := by
  by_cases hn6 : n ≤ 600
  · by_cases hx : r < 0 ∨ 255 < r ∨ 255 < n
    · exact checks_bad A n c r l w hl hrd hn6 hx
    · obtain ⟨r', rfl⟩ := Int.eq_ofNat_of_zero_le (show 0 ≤ r by omega)
      by_cases hs : n + r' ≤ 255
      · exact checks_ok A n c r' l w hl hrd hn6 hs
      · exact checks_mid A n c r' l w hl hrd hn6 (by omega) (by omega) (by omega)
  · have t1 : decide ((600 : Int) < (n : Int)) = true := by simp; omega
    clear hn6 hl hrd
    go_enter Try.func4, Try.ntmps4
    go_wp2
    go_ret
    exact ⟨rfl, Below.refl _ _⟩
end Go.Proofs.Ytnbekifcajmdkaa
