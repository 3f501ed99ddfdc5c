/- The walk of decode.Word. -/
import Derived.Test.YthejbmjleohlfaaDv
namespace Go.Proofs.Ythejbmjleohlfaa
open Go.RowKit Go.Shelf

/-- What decode.Word hands back. -/
def RetDec (w : World) (n r : Nat) (gs : List Nat) (l : List F) (e : Ending) (w' : World) : Prop :=
  (∃ (A : Option Addr) (c : Nat) (d : List F), e = .returned (.tuple #[.slice A n c, .int .i64 0]) ∧ Own w' w.heap.size A n c d ∧ Dec n r gs l d ∧ Below w.heap.size w w') ∨
  ((∀ d, ¬ Dec n r gs l d) ∧ e = .returned (.tuple #[.slice none 0 0, .int .i64 54]) ∧ Below w.heap.size w w')
set_option maxRecDepth 100000 in
set_option maxHeartbeats 4000000 in
theorem word_in (A Ag : Option Addr) (n c ng cg r : Nat) (l : List F) (gs : List Nat) (w : World) (hl : l.length = n) (hrd : Rd w w.heap.size A l) (hz : gs.length = ng) (hI : RdI w w.heap.size Ag (gs.map fun g : Nat => (g : Int))) (hn1 : 1 ≤ n) (hn : n ≤ 255) (hrn : r ≤ n) (hb : mayB n r (gs.map fun g : Nat => (g : Int)) = true) (hgr' : ng ≤ r) (hnd : gs.Nodup) (hlt : ∀ g ∈ gs, g < n) :
    Calls Try.prog 27 #[.slice A n c, .int .i64 r, .slice Ag ng cg] w (RetDec w n r gs l) := by
  have H := Lib.hid (may_any Ag ng cg (gs.map fun g : Nat => (g : Int)) n r w (by simpa using hz) (by omega) hI (by omega))
  have HB := Lib.hid hb
  have HL := Lib.hid hl
  have HRD := Lib.hid hrd
  have HGS := Lib.hid hz
  have HRG := Lib.hid hI.rdG
  have HND := Lib.hid hnd
  have HLT := Lib.hid hlt
  clear hz hI hb hl hrd hnd hlt
  go_enter Try.func27, Try.ntmps27
  go_wp2_with fail
  refine H.out.mono ?_
  rintro e w1 ⟨rfl, hb1⟩
  rw [HB.out]
  go_wp2_with fail
  refine (new_any _).mono ?_
  rintro e w2 ⟨rfl, rfl⟩
  have HB1 := Lib.hid (hb1.alloc hb1.size (.cells #[] 89))
  have RD2 := Lib.hid ((HRD.out.below HB1.out).more HB1.out.size)
  go_wp2_with fail
  refine (clone_any A n c l _ HL.out (by exact RD2.out) (by omega)).mono ?_
  rintro e w3 ⟨A1, c1, rfl, hown, hb3⟩
  rw [HL.out] at hown ⊢
  have HB3 := Lib.hid (bstep HB1.out (Nat.le_refl _) hb3)
  have hs1 := HB1.out.size
  have O3 := Lib.hid (hown.less hs1)
  clear hb3 hown H HB hb1
  go_wp2_with fail
  obtain ⟨g, hg⟩ : ∃ g, g = w3.heap.size := ⟨_, rfl⟩
  obtain ⟨pf, hpf⟩ : ∃ pf, pf = some (⟨w1.heap.size, 0, none⟩ : Addr) := ⟨_, rfl⟩
  rw [← hpf]
  have W4 := WordAt.new w3 pf A1 Ag n c1 r ng cg 82
  have B4 := HB3.out.alloc HB3.out.size (.cells #[.pointer pf, .slice A1 n c1, .int .i64 r, .slice Ag ng cg] 82)
  have O4 := O3.out.alloc (.cells #[.pointer pf, .slice A1 n c1, .int .i64 r, .slice Ag ng cg] 82)
  obtain ⟨b1, rfl, hb1B, hb1lt⟩ := O3.out.form (by omega)
  rw [← hg] at W4 hb1lt ⊢
  have hgB := HB3.out.size
  rw [← hg] at hgB
  have hg4 : g < (w3.alloc (.cells #[.pointer pf, .slice (some ⟨b1, 0, none⟩) n c1, .int .i64 r, .slice Ag ng cg] 82)).heap.size := by rw [hg]; simp
  obtain ⟨w4, hw4⟩ : ∃ w4, w4 = w3.alloc (.cells #[.pointer pf, .slice (some ⟨b1, 0, none⟩) n c1, .int .i64 r, .slice Ag ng cg] 82) := ⟨_, rfl⟩
  rw [← hw4] at W4 B4 O4 hg4
  simp only [← hw4]
  have HW4 := Lib.hid W4
  have HB4 := Lib.hid B4
  have HO4 := Lib.hid O4
  clear hg hpf hw4 O3 HB3 HB1 RD2 hs1 W4 B4 O4
  go_loopw [35] (fun j wr => ∃ (k : Nat), k ≤ ng ∧ j = .int .i64 k ∧ Own wr w.heap.size (some ⟨b1, 0, none⟩) n c1 (zeroAt l (gs.take k)) ∧ WordAt wr g pf (some ⟨b1, 0, none⟩) n c1 r Ag ng cg ∧ Below w.heap.size w wr ∧ g < wr.heap.size) (fun j _ => ng - (intOf j).toNat)
  case atStart => exact ⟨0, by omega, rfl, HO4.out, HW4.out, HB4.out, hg4⟩
  case round =>
    obtain ⟨k, hk, rfl, hown, hwd, hbel, hgr⟩ := hrel
    have HO := Lib.hid hown
    have HWD := Lib.hid hwd
    have HBL := Lib.hid hbel
    clear hown HW4 HB4 HO4
    by_cases hkr : k < ng
    · obtain ⟨b, off, rfl, hbl, hc⟩ := (HRG.out.below hbel) (by rw [HGS.out]; omega)
      have cc := hc k (by rw [HGS.out]; exact hkr)
      have hx : gs.getD k 0 < n := HLT.out _ (by rw [List.getD, List.getElem?_eq_getElem (by rw [HGS.out]; exact hkr)]; exact List.getElem_mem _)
      have HZ := Lib.hid (zeroAt_take l (gs := gs) (k := k) (by rw [HGS.out]; exact hkr))
      generalize gs.getD k 0 = i at cc hx HZ
      generalize zeroAt l (gs.take k) = o at HO HZ
      have e1 := hwd.l
      have ex := HO.out.cell hx
      have fx := HO.out.frozen i
      clear hc hwd hbel
      go_wp2_with fail
      go_roundw
      case rel => exact ⟨k + 1, by omega, by go_num, by rw [HZ.out]; exact HO.out.store i 0 rfl, HWD.out.far (by omega), HBL.out.setCell (p := ⟨b1, i, none⟩) hb1B _, by rw [World.size_setCell]; exact hgr⟩
      case measure => simp only [intOf]; omega
    · obtain rfl : k = ng := by omega
      have e : gs.take k = gs := List.take_of_length_le (by rw [HGS.out]; omega)
      rw [e] at HO
      obtain ⟨z, hz⟩ : ∃ z, z = zeroAt l gs := ⟨_, rfl⟩
      have hzl : z.length = n := by rw [hz, zeroAt_length, HL.out]
      rw [← hz] at HO
      have HZ := Lib.hid hz
      have HZL := Lib.hid hzl
      have hlt : ∀ j, j < k → gs.getD j 0 < n := fun j hj => HLT.out _ (by rw [List.getD, List.getElem?_eq_getElem (by rw [HGS.out]; exact hj)]; exact List.getElem_mem _)
      have HM := Lib.hid (mend_any g pf (some ⟨b1, 0, none⟩) Ag n c1 r k cg z gs wr hwd hgr hzl HO.out.rd hn (by omega) HGS.out hgr' ((HRG.out.below hbel).more hbel.size) hlt)
      clear hz hzl hlt e hwd hbel
      go_wp2_with fail
      refine HM.out.mono ?_
      rintro e w5 ⟨A5, c5, t, b, rfl, ho5, hb5, hloc⟩
      have HLOC := Lib.hid hloc
      have hs5 := HBL.out.size
      have HB5 := Lib.hid (HBL.out.trans (hb5.mono hs5))
      have RL5 := Lib.hid ((HRD.out.below HB5.out).more HB5.out.size)
      have RG5 := Lib.hid ((HRG.out.below HB5.out).more HB5.out.size)
      have DM := Lib.hid (fun d (hd : Dec n r gs l d) => dec_mend hn hrn HL.out HND.out HLT.out hd (by rw [HGS.out, ← HZ.out]; exact hloc))
      rw [← HZ.out] at DM
      have hol : (mendL n z (mulL t (goneL n gs)) b).length = n := tab_length _ _
      generalize mendL n z (mulL t (goneL n gs)) b = out at ho5 DM hol
      have HOL := Lib.hid hol
      have HO5 := Lib.hid (ho5.less hs5)
      clear hloc HLOC hol ho5 hb5 HM HO HZ HZL HWD HBL
      go_wp2_with fail
      obtain ⟨b5, rfl, hb5B, hb5lt⟩ := HO5.out.form (by omega)
      obtain ⟨bl, ofl, rfl, hbl, hcl⟩ := RL5.out (by rw [HL.out]; omega)
      have HCL := Lib.hid hcl
      clear hcl
      obtain ⟨wo, rfl⟩ : ∃ wo, wo = wr := ⟨_, rfl⟩
      go_loopw [12, 50] (fun v j wr => ∃ (i : Nat), i ≤ n ∧ j = .int .i64 i ∧ v = .int .i64 (unl gs out l i) ∧ Below w5.heap.size w5 wr) (fun _ j _ => n - (intOf j).toNat)
      case atStart => exact ⟨0, by omega, rfl, rfl, Below.refl _ _⟩
      case round =>
        obtain ⟨i, hi, rfl, rfl, hbel⟩ := hrel
        have HBL := Lib.hid hbel
        by_cases hin : i < n
        · have c1 := (hbel.cell (p := ⟨b5, i, none⟩) hb5lt).trans (HO5.out.cell hin)
          have c2 := (hbel.cell (p := ⟨bl, ofl + i, none⟩) hbl).trans (HCL.out i (by rw [HL.out]; exact hin))
          have US := Lib.hid (unl_succ gs out l i)
          have hul := unl_le gs out l i
          have RG6 := Lib.hid ((RG5.out.below hbel).more hbel.size)
          generalize unl gs out l i = u at hul US ⊢
          generalize out.getD i 0 = x at c1 US
          generalize l.getD i 0 = y at c2 US
          have BN := Lib.hid (balloc wr (.cells #[.int .i64 i] 3))
          have RG7 := Lib.hid (RG6.out.below BN.out)
          have c6 : (wr.alloc (.cells #[.int .i64 i] 3)).cell? ⟨wr.heap.size, 0, none⟩ = some (.int .i64 i) := by go_cell
          have c3 := (BN.out.cell (p := ⟨b5, i, none⟩) (Nat.lt_of_lt_of_le hb5lt hbel.size)).trans c1
          have c4 := (BN.out.cell (p := ⟨bl, ofl + i, none⟩) (Nat.lt_of_lt_of_le hbl hbel.size)).trans c2
          have b0 : 0 ≤ (i : Int) := by omega
          have b1 : (i : Int) < (n : Int) := by omega
          clear hbel
          by_cases hxy : x = y
          · have t1 := fne hxy
            have US2 := Lib.hid (show unl gs out l (i + 1) = u by rw [US.out, if_neg (fun h => h.1 hxy)]; rfl)
            clear hxy US
            go_wp2_with fail
            go_quiet (fail)
            go_wp2_with fail
            go_roundw
            case rel => exact ⟨i + 1, by omega, by go_num, by rw [US2.out], bstep HBL.out (Nat.le_refl _) (below_drewN BN.out _)⟩
            case measure => simp only [intOf]; omega
          · have t1 := fne' hxy
            by_cases hgi : i ∈ gs
            · have US2 := Lib.hid (show unl gs out l (i + 1) = u by rw [US.out, if_neg (fun h => h.2 hgi)]; rfl)
              have hd := decide_eq_true hgi
              clear hxy US hgi
              go_wp2_with fail
              go_quiet ((go_at_call 43; exact qs (containsg_any Ag k cg _ i wr.heap.size gs _ HGS.out (by exact RG7.out) (by unfold maxLen; omega) (by exact c6))))
              go_wp2_with fail
              go_roundw
              case rel => exact ⟨i + 1, by omega, by go_num, by rw [US2.out], bstep HBL.out (Nat.le_refl _) (below_drewN BN.out _)⟩
              case measure => simp only [intOf]; omega
            · have US2 := Lib.hid (show unl gs out l (i + 1) = u + 1 by rw [US.out, if_pos ⟨hxy, hgi⟩])
              have hd := decide_eq_false hgi
              clear hxy US hgi
              go_wp2_with fail
              go_quiet ((go_at_call 43; exact qs (containsg_any Ag k cg _ i wr.heap.size gs _ HGS.out (by exact RG7.out) (by unfold maxLen; omega) (by exact c6))))
              go_wp2_with fail
              go_roundw
              case rel => exact ⟨i + 1, by omega, by go_num, by rw [US2.out]; go_num, bstep HBL.out (Nat.le_refl _) (below_drewN BN.out _)⟩
              case measure => simp only [intOf]; omega
        · obtain rfl : i = n := by omega
          have O6 := Lib.hid (HO5.out.below hbel)
          have B6 := Lib.hid (bstep HB5.out (Nat.le_refl _) hbel)
          obtain ⟨u, hu⟩ : ∃ u, u = unl gs out l i := ⟨_, rfl⟩
          have HU := Lib.hid hu
          have hul := unl_le gs out l i
          rw [← hu] at hul ⊢
          clear hu hbel HBL
          have hmz : mostZ (r : Int) k = ((r : Int) - (k : Int)) / 2 := if_neg (by omega)
          have HMZ := Lib.hid hmz
          clear hmz
          go_wp2_with fail
          refine (most_any (r : Int) k _ (by omega)).mono ?_
          rintro e w7 ⟨rfl, rfl⟩
          rw [HMZ.out]
          by_cases hwr : ((r : Int) - (k : Int)) / 2 < (u : Int)
          · have hno : ∀ d, ¬ Dec i r gs l d := fun d hd => by
              have h1 := DM.out d hd
              have h2 := hd.few
              rw [← h1, ← HU.out, HGS.out] at h2
              omega
            have HNO := Lib.hid hno
            clear hno
            go_wp2_with fail
            go_ret2
            exact .inr ⟨HNO.out, rfl, B6.out⟩
          · have hwr2 : (u : Int) ≤ ((r : Int) - (k : Int)) / 2 := by omega
            go_wp2_with fail
            refine (right_any (some ⟨b5, 0, none⟩) i c5 (r : Int) out _ HOL.out (by exact O6.out.rd)).mono ?_
            rintro e w8 ⟨rfl, hb8⟩
            have B8 := Lib.hid (bstep B6.out (Nat.le_refl _) hb8)
            have O8 := Lib.hid (O6.out.below hb8)
            have hiff := rightB_iff (l := out) (r := r) (by rw [HOL.out]; exact hn)
            rw [HOL.out] at hiff
            have HIFF := Lib.hid hiff
            clear hb8 hiff
            cases hrb : rightB out (r : Int) with
            | true =>
              have hdec : Dec i r gs l out := ⟨HOL.out, (HIFF.out.1 hrb).2, by rw [← HU.out, HGS.out]; omega⟩
              have HD := Lib.hid hdec
              clear hrb hdec
              go_wp2_with fail
              go_ret2
              exact .inl ⟨_, c5, out, rfl, O8.out, HD.out, B8.out⟩
            | false =>
              have hno : ∀ d, ¬ Dec i r gs l d := fun d hd => by
                have h1 := DM.out d hd
                have h2 := HIFF.out.2 ⟨hrn, by rw [h1]; exact hd.right⟩
                rw [hrb] at h2
                cases h2
              have HNO := Lib.hid hno
              clear hno hrb
              go_wp2_with fail
              go_ret2
              exact .inr ⟨HNO.out, rfl, B8.out⟩
end Go.Proofs.Ythejbmjleohlfaa
