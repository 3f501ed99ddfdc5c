/- The walk of the document's way to make a word right. -/
import Derived.Test.YtbahelhhkmonmaaEr
import Derived.Test.YtbahelhhkmonmaaHk
import Derived.Test.YtbahelhhkmonmaaDv2
import Derived.Test.YtbahelhhkmonmaaPc
import Derived.Test.YtbahelhhkmonmaaRsc
import Derived.Test.YtbahelhhkmonmaaTk
namespace Go.Proofs.Ytbahelhhkmonmaa
open Go.RowKit Go.Shelf

set_option maxRecDepth 100000 in
/-- append(s, x) as one operation. -/
theorem wpO_push {o : Oper} {a : Act} {K : Act → World → Prop} {Q : Exit → Act → World → Prop} (w : World) (s x : Operand) (ho : o.op = .call { callee := .builtin .append, args := #[s, x], argTypes := #[22, 22] })
    (B : Nat) (A : Option Addr) (n c : Nat) (l : List F) (hs : a.eval s = .slice A n c) (hown : Own w B A n c l)
    (g m : Nat) (b : F) (z : Int) (hz : z = b.nat) (hx : a.eval x = .slice (some ⟨g, 0, none⟩) 1 m) (hcell : w.cell? ⟨g, 0, none⟩ = some (.int .u16 z)) (hn : n ≤ 100000000) (hB : B ≤ w.heap.size)
    (h : ∀ A' c' w', Own w' B A' (n + 1) c' (l ++ [b]) → Below B w w' → K (a.put o.dst (.slice A' (n + 1) c')) w') : Oper.wp Try.prog o a w K Q := by
  obtain ⟨i0, hi0, hz0, hz1, hz2⟩ := info_parts u16_info
  subst hz
  refine wp_append_own w s x 22 ho B 29 i0 (.int .u16 0) 1 2 Try.underlying22 hi0 hz0 hz1 hz2 rfl (by decide) _ n _ hs hown.2 ⟨g, 0, none⟩ 1 m [fv b] hx rfl ?_ ?_ ?_ ?_ hB ?_
  · intro j u hu
    cases j with
    | zero => simp at hu; subst hu; exact hcell
    | succ j => simp at hu
  · intro u hu
    simp at hu; subst hu; rfl
  · unfold maxLen; omega
  · omega
  · intro v' w1 hown' hg hnil
    obtain ⟨A', c', rfl⟩ : ∃ A' c', v' = .slice A' (n + 1) c' := by
      rcases hown'.2 with ⟨_, h0⟩ | ⟨g', cap, cur, hv, _⟩
      · omega
      · exact ⟨_, _, hv⟩
    have hlen := hown.1
    refine h A' c' w1 ⟨by rw [List.length_append, hlen]; rfl, by rw [List.map_append]; exact hown'⟩ ((Below.refl _ _).grown hg hB fun k hk => ?_)
    cases A with
    | none => cases hk
    | some ad =>
      simp only [Value.ownBlock, Option.some.injEq] at hk
      rcases hown.2.2 with ⟨hv, _⟩ | ⟨g', cap, cur, hv, hb, _⟩
      · cases hv
      · injection hv with hv; injection hv with hv; subst hv; subst hk; exact hb

/-- A slice of places, as numbers. -/
theorem RdV.rdG {w : World} {B : Nat} {A : Option Addr} {gs : List Nat} (h : RdV w B A (gs.map pv64)) : RdG w B A gs := fun h0 => by
  obtain ⟨b, off, hA, hlt, hc⟩ := h (by simpa using h0)
  exact ⟨b, off, hA, hlt, fun j hj => hc j _ (by rw [List.getElem?_map, List.getD, List.getElem?_eq_getElem hj]; rfl)⟩
theorem RdG.rdV {w : World} {B : Nat} {A : Option Addr} {gs : List Nat} (h : RdG w B A gs) : RdV w B A (gs.map pv64) := fun h0 => by
  obtain ⟨b, off, hA, hlt, hc⟩ := h (by simpa using h0)
  refine ⟨b, off, hA, hlt, fun j v hj => ?_⟩
  have hjl : j < gs.length := by
    rcases Nat.lt_or_ge j gs.length with h | h
    · exact h
    · rw [List.getElem?_eq_none (by simpa using h)] at hj; cases hj
  rw [List.getElem?_map, List.getElem?_eq_getElem hjl] at hj
  have h2 := hc j hjl
  rw [List.getD, List.getElem?_eq_getElem hjl] at h2
  rw [h2]
  exact hj
theorem loc_end (e : Nat) (c : Nat → F) (y : F) : pv ((loc e c).drop e) y = 1 := by
  unfold loc
  rw [List.drop_left' (tab_length _ _), pv_single]
theorem loc_step {e k : Nat} (c : Nat → F) (y : F) (hk : k < e) : pv ((loc e c).drop k) y = pv ((loc e c).drop (k + 1)) y * y + c k := by
  have hl : k < (loc e c).length := by unfold loc; rw [List.length_append, tab_length]; simp; omega
  have h2 : (loc e c)[k] = c k := by
    have h3 : (loc e c).getD k 0 = c k := by
      unfold loc
      rw [getD_append_left (by rw [tab_length]; exact hk), tab_getD _ _ _ hk]
    rw [List.getD, List.getElem?_eq_getElem hl] at h3
    exact h3
  rw [List.drop_eq_getElem_cons hl, pv, h2]

set_option maxRecDepth 100000 in
set_option maxHeartbeats 2000000 in
theorem rword_bad (A Ag : Option Addr) (n c ng cg : Nat) (r : Int) (zs : List Int) (w : World) (hz : zs.length = ng) (hm : ng ≤ 1000000) (hI : RdI w w.heap.size Ag zs) (hn : n ≤ 9223372036854775807) (hb : mayB n r zs = false) :
    Calls Try.prog 9 #[.slice A n c, .int .i64 r, .slice Ag ng cg] w fun e w' => e = .returned (.tuple #[.slice none 0 0, .int .i64 1]) ∧ Below w.heap.size w w' := by
  have H := Lib.hid (rmay_any Ag ng cg zs n r w hz hm hI hn)
  have HB := Lib.hid hb
  clear hz hI hb
  go_enter Try.func9, Try.ntmps9
  go_wp2_with fail
  refine H.out.mono ?_
  rintro e w1 ⟨rfl, hb1⟩
  rw [HB.out]
  go_wp2_with fail
  go_ret2
  exact ⟨rfl, hb1⟩

set_option maxRecDepth 100000 in
set_option maxHeartbeats 8000000 in
theorem rword_in (A Ag : Option Addr) (n c ng cg r : Nat) (l : List F) (gs : List Nat) (w : World) (hl : l.length = n) (hrd : Rd w w.heap.size A l) (hz : gs.length = ng) (hng : ng ≤ 1000) (hI : RdI w w.heap.size Ag (gs.map fun g : Nat => (g : Int))) (hn1 : 1 ≤ n) (hn : n ≤ 255) (hrn : r ≤ n) (hb : mayB n r (gs.map fun g : Nat => (g : Int)) = true) (hnd : gs.Nodup) (hlt : ∀ g ∈ gs, g < n) :
    Calls Try.prog 9 #[.slice A n c, .int .i64 r, .slice Ag ng cg] w (RetDec w n r gs l) := by
  have H := Lib.hid (rmay_any Ag ng cg (gs.map fun g : Nat => (g : Int)) n r w (by simpa using hz) (by omega) hI (by omega))
  have HMB := Lib.hid hb
  have HL := Lib.hid hl
  have HRD := Lib.hid hrd
  have HPS := Lib.hid hz
  have HRG := Lib.hid hI.rdG
  have HRI := Lib.hid hI
  have HND := Lib.hid hnd
  have HLT := Lib.hid hlt
  clear hz hI hb hl hrd hnd hlt
  go_enter Try.func9, Try.ntmps9
  go_wp2_with fail
  refine H.out.mono ?_
  rintro e w0 ⟨rfl, hb0⟩
  rw [HMB.out]
  have B0 := Lib.hid hb0
  have hs0 := hb0.size
  have RD0 := Lib.hid ((HRD.out.below hb0).more hs0)
  clear hb0 H HMB
  go_wp2_with (refine wpList_ext _ rfl (.tmp 36) (.tmp 37) rfl w.heap.size _ 0 _ [] rfl (Own.lit w0 w.heap.size [] _ hs0 (by decide) rfl) A n c _ l rfl HL.out (RD0.out.below (balloc w0 _)) (by omega) (by simp; omega) ?_; intro A1 c1 w1 hown1 hb1 hg1; simp only [Nat.zero_add, List.nil_append] at hown1)
  obtain ⟨g1, rfl, hg1a, hg1b⟩ := hown1.form (by omega)
  have O1 := Lib.hid hown1
  have B1 := Lib.hid ((B0.out.alloc hs0 (.cells #[] 29)).trans hb1)
  clear hown1 hb1 hg1
  go_loopw [10] (fun v wr => ∃ k : Nat, k ≤ ng ∧ v = .int .i64 k ∧ Own wr w.heap.size (some ⟨g1, 0, none⟩) n c1 (zeroAt l (gs.take k)) ∧ Below w.heap.size w wr) (fun v _ => ng - (intOf v).toNat)
  case atStart => exact ⟨0, Nat.zero_le _, rfl, O1.out, B1.out⟩
  case round =>
    obtain ⟨k, hk, rfl, hown, hbel⟩ := hrel
    have HO := Lib.hid hown
    have HB := Lib.hid hbel
    clear hown O1 B1
    by_cases hkm : k < ng
    · obtain ⟨b, off, rfl, hb, hc⟩ := (HRG.out.below hbel) (by rw [HPS.out]; omega)
      have cc := hc k (by rw [HPS.out]; exact hkm)
      have hx : gs.getD k 0 < n := HLT.out _ (getD_mem (by rw [HPS.out]; exact hkm))
      have HZ := Lib.hid (zeroAt_take l (gs := gs) (k := k) (by rw [HPS.out]; exact hkm))
      generalize gs.getD k 0 = i at cc hx HZ
      generalize zeroAt l (gs.take k) = o at HO HZ
      have ex := HO.out.cell hx
      have fx := HO.out.frozen i
      clear hc hbel
      go_wp2_with fail
      go_roundw
      case rel => exact ⟨k + 1, by omega, by go_num, by rw [HZ.out]; exact HO.out.store i 0 rfl, HB.out.setCell (p := ⟨g1, i, none⟩) hg1a _⟩
      case measure => simp only [intOf]; omega
    · have HK := Lib.hid (show k = ng by omega)
      have e : gs.take k = gs := List.take_of_length_le (by rw [HPS.out, HK.out]; exact Nat.le_refl _)
      rw [e] at HO
      obtain ⟨z, hz⟩ : ∃ z, z = zeroAt l gs := ⟨_, rfl⟩
      rw [← hz] at HO
      have HZ := Lib.hid hz
      have HZL := Lib.hid (show z.length = n by rw [hz, zeroAt_length, HL.out])
      clear e hz hbel hk
      obtain ⟨wo, rfl⟩ : ∃ wo, wo = wr := ⟨_, rfl⟩
      go_wp2_with fail
      refine (rsums4_any _ n c1 r z _ HZL.out (by exact HO.out.rd) hn (by omega)).mono ?_
      rintro e w2 ⟨A2, c2, rfl, hown2, hb2⟩
      have S2 := Lib.hid (hown2.less' HB.out.size)
      have B2 := Lib.hid (bstep HB.out (Nat.le_refl _) hb2)
      have HPT := Lib.hid (show petS n r gs l = modL n gs (sumsL z r) by rw [HZ.out]; rfl)
      have SL := Lib.hid (sumsL_length z r)
      generalize sumsL z r = s0 at S2 HPT SL
      clear hown2 hb2 HO HB HZ HZL
      go_wp2_with fail
      go_loopw [11, 12] (fun v u wr => ∃ (k m : Nat) (A3 : Option Addr) (c3 : Nat), k ≤ ng ∧ m ≤ 255 ∧ u = .int .i64 k ∧ v = .slice A3 m c3 ∧ Own wr w.heap.size A3 m c3 (modL n (gs.take k) s0) ∧ Below w.heap.size w wr) (fun _ u _ => ng - (intOf u).toNat)
      case atStart => exact ⟨0, r, A2, c2, Nat.zero_le _, by omega, rfl, rfl, S2.out, B2.out⟩
      case round =>
        obtain ⟨j, m, A3, c3, hj, hm, rfl, rfl, hown, hbel⟩ := hrel
        have HO := Lib.hid hown
        have HB := Lib.hid hbel
        have hsq := hbel.size
        obtain ⟨wq, rfl⟩ : ∃ wq, wq = wr := ⟨_, rfl⟩
        clear hown S2 B2
        by_cases hjm : j < ng ∧ 0 < m
        · obtain ⟨hj1, hj2⟩ := hjm
          obtain ⟨b, off, rfl, hb, hc⟩ := (HRG.out.below hbel) (by rw [HPS.out]; omega)
          have cc := hc j (by rw [HPS.out]; exact hj1)
          have hx : gs.getD j 0 < n := HLT.out _ (getD_mem (by rw [HPS.out]; exact hj1))
          have HM := Lib.hid (modL_take n (gs := gs) (k := j) (by rw [HPS.out]; exact hj1) s0)
          generalize gs.getD j 0 = p at cc hx HM
          generalize modL n (gs.take j) s0 = s at HO HM
          have hsl : s.length = m := HO.out.len
          have HSL := Lib.hid hsl
          obtain ⟨x, hxe⟩ : ∃ x, x = F.px (n - 1 - p) := ⟨_, rfl⟩
          rw [← hxe] at HM
          have HX := Lib.hid hxe
          clear hc hbel hsl hxe
          have u1 : decide ((0 : Int) < (m : Int)) = true := decide_eq_true (by omega)
          go_wp2_with fail
          refine (rpoint_any n p _ hx hn).mono ?_
          rintro e w' ⟨rfl, rfl⟩
          rw [← HX.out]
          obtain ⟨f, hf⟩ : ∃ f : Nat → F, f = fun t => s.getD (t + 1) 0 + x * s.getD t 0 := ⟨_, rfl⟩
          have HF := Lib.hid (show ∀ t, f t = s.getD (t + 1) 0 + x * s.getD t 0 from fun t => by rw [hf])
          have HST := Lib.hid (show stepL s x = tab (m - 1) f by rw [hf, stepL, HSL.out])
          clear hf
          go_wp2_with fail
          obtain ⟨gs3, rfl, hg3a, hg3b⟩ := HO.out.form (by omega)
          go_loopw [14, 15] (fun v u wr => ∃ (t : Nat) (A4 : Option Addr) (c4 : Nat), t ≤ m - 1 ∧ u = .int .i64 t ∧ v = .slice A4 t c4 ∧ Own wr wq.heap.size A4 t c4 (tab t f) ∧ Below wq.heap.size wq wr) (fun _ u _ => m - 1 - (intOf u).toNat)
          case atStart => exact ⟨0, none, 0, Nat.zero_le _, rfl, rfl, Own.nil _ _, Below.refl _ _⟩
          case round =>
            obtain ⟨t, A4, c4, ht, rfl, rfl, hown, hbel⟩ := hrel
            have HO4 := Lib.hid hown
            have HB4 := Lib.hid hbel
            have hs4 := hbel.size
            clear hown
            by_cases htm : t < m - 1
            · have d1 := HO.out.cell (j := t + 1) (by omega)
              have d2 := HO.out.cell (j := t) (by omega)
              have HT := Lib.hid (tab_next f t)
              rw [HF.out t] at HT
              generalize s.getD (t + 1) 0 = y1 at d1 HT
              generalize s.getD t 0 = y2 at d2 HT
              generalize tab t f = o at HO4 HT
              have q1 : (0 : Int) ≤ (t : Int) := by omega
              have q2 : (t : Int) < (m : Int) := by omega
              have q3 : (t : Int) + 1 < (m : Int) := by omega
              have q4 : (0 : Int) ≤ (t : Int) + 1 := by omega
              have q5 : IntKind.i64.wrap ((t : Int) + 1) = (t : Int) + 1 := IntWalk.i64_in _ ⟨by omega, by omega⟩
              have q6 : ((t : Int) + 1).toNat = t + 1 := by omega
              clear hbel
              go_wp2_with fail
              refine wp_region_held_drew (S := fun w' => Below wq.heap.size wq w') (by kernel_rfl) (HB4.out.drew) (fun hHeld => ?_)
              refine take_in (v := ?_) 78 0 rfl rfl (by kernel_rfl) (by kernel_rfl) (by kernel_rfl) (fun _ _ _ h => h) (by rfl) ?_ (by assumption) ?_
              rotate_left 1
              · (intro w hSw; go_simp; (try with_reducible rfl))
              (try simp only [List.setIfInBounds_toArray, List.set_cons_zero, List.set_cons_succ])
              refine take_in (v := ?_) 79 1 rfl rfl (by kernel_rfl) (by kernel_rfl) (by kernel_rfl) (fun _ _ _ h => h) (by rfl) ?_ (by assumption) ?_
              rotate_left 1
              · (intro w hSw; go_simp; (try with_reducible rfl))
              (try simp only [List.setIfInBounds_toArray, List.set_cons_zero, List.set_cons_succ])
              refine take_in (v := ?_) 80 2 rfl rfl (by kernel_rfl) (by kernel_rfl) (by kernel_rfl) (fun _ _ _ h => h) (by rfl) ?_ (by assumption) ?_
              rotate_left 1
              · (intro w hSw; go_simp; (try with_reducible rfl))
              (try simp only [List.setIfInBounds_toArray, List.set_cons_zero, List.set_cons_succ])
              refine take_in (v := ?_) 81 3 rfl rfl (by kernel_rfl) (by kernel_rfl) (by kernel_rfl) (fun _ _ _ h => h) (by rfl) ?_ (by assumption) ?_
              rotate_left 1
              · (intro w hSw; go_simp; (try with_reducible rfl))
              (try simp only [List.setIfInBounds_toArray, List.set_cons_zero, List.set_cons_succ])
              refine take_in (v := ?_) 82 4 rfl rfl (by kernel_rfl) (by kernel_rfl) (by kernel_rfl) (fun _ _ _ h => h) (by rfl) ?_ (by assumption) ?_
              rotate_left 1
              · (intro w hSw; go_simp; (try with_reducible rfl))
              (try simp only [List.setIfInBounds_toArray, List.set_cons_zero, List.set_cons_succ])
              refine take_in (v := ?_) 83 5 rfl rfl (by kernel_rfl) (by kernel_rfl) (by kernel_rfl) (fun _ _ _ h => h) (by rfl) ?_ (by assumption) ?_
              rotate_left 1
              · (intro w hSw; have z1 := (Below.cell hSw (p := ⟨gs3, t + 1, none⟩) hg3b).trans d1; have z2 := (Below.cell hSw (p := ⟨gs3, t, none⟩) hg3b).trans d2; go_simp; (try with_reducible rfl))
              (try simp only [List.setIfInBounds_toArray, List.set_cons_zero, List.set_cons_succ])
              refine take_in (v := ?_) 84 6 rfl rfl (by kernel_rfl) (by kernel_rfl) (by kernel_rfl) (fun _ _ _ h => h) (by rfl) ?_ (by assumption) ?_
              rotate_left 1
              · (intro w hSw; go_simp; (try with_reducible rfl))
              (try simp only [List.setIfInBounds_toArray, List.set_cons_zero, List.set_cons_succ])
              refine take_in (v := ?_) 85 7 rfl rfl (by kernel_rfl) (by kernel_rfl) (by kernel_rfl) (fun _ _ _ h => h) (by rfl) ?_ (by assumption) ?_
              rotate_left 1
              · (intro w hSw; go_simp; (try with_reducible rfl))
              (try simp only [List.setIfInBounds_toArray, List.set_cons_zero, List.set_cons_succ])
              refine take_in (v := ?_) 86 8 rfl rfl (by kernel_rfl) (by kernel_rfl) (by kernel_rfl) (fun _ _ _ h => h) (by rfl) ?_ (by assumption) ?_
              rotate_left 1
              · (intro w hSw; go_simp; (try with_reducible rfl))
              (try simp only [List.setIfInBounds_toArray, List.set_cons_zero, List.set_cons_succ])
              refine take_in (v := ?_) 87 9 rfl rfl (by kernel_rfl) (by kernel_rfl) (by kernel_rfl) (fun _ _ _ h => h) (by rfl) ?_ (by assumption) ?_
              rotate_left 1
              · (intro w hSw; go_simp; (try with_reducible rfl))
              (try simp only [List.setIfInBounds_toArray, List.set_cons_zero, List.set_cons_succ])
              refine take_in (v := ?_) 88 10 rfl rfl (by kernel_rfl) (by kernel_rfl) (by kernel_rfl) (fun _ _ _ h => h) (by rfl) ?_ (by assumption) ?_
              rotate_left 1
              · (intro w hSw; have z1 := (Below.cell hSw (p := ⟨gs3, t + 1, none⟩) hg3b).trans d1; have z2 := (Below.cell hSw (p := ⟨gs3, t, none⟩) hg3b).trans d2; go_simp; (try with_reducible rfl))
              (try simp only [List.setIfInBounds_toArray, List.set_cons_zero, List.set_cons_succ])
              refine wpAnyH_ready (rs := [11]) (by kernel_rfl) (by simp) ?_
              refine AllReadyH.cons rfl (fun K hK => ?_) AllReadyH.nil
              go_simp
              refine (rmul_any _ _ x y2 _ rfl rfl).mono ?_
              rintro e wC ⟨rfl, rfl⟩
              go_wp2_with fail
              refine hK.out _ _ hHeld (fun hHeld => ?_)
              clear hK K
              (try simp only [List.setIfInBounds_toArray, List.set_cons_zero, List.set_cons_succ])
              refine take_in (v := ?_) 90 12 rfl rfl (by kernel_rfl) (by kernel_rfl) (by kernel_rfl) (fun _ _ _ h => h) (by rfl) ?_ (by assumption) ?_
              rotate_left 1
              · (intro w hSw; go_simp; (try with_reducible rfl))
              (try simp only [List.setIfInBounds_toArray, List.set_cons_zero, List.set_cons_succ])
              refine wpAnyH_ready (rs := [13]) (by kernel_rfl) (by simp) ?_
              refine AllReadyH.cons rfl (fun K hK => ?_) AllReadyH.nil
              go_simp
              refine hK.out _ _ (hHeld.alloc (by have := hHeld.size; exact this) _) (fun hHeld => ?_)
              clear hK K
              (try simp only [List.setIfInBounds_toArray, List.set_cons_zero, List.set_cons_succ])
              refine wpAnyH_ready (rs := [14]) (by kernel_rfl) (by simp) ?_
              refine AllReadyH.cons rfl (fun K hK => ?_) AllReadyH.nil
              rw [if_pos (by rfl)]
              refine wpO_push _ _ _ rfl wq.heap.size _ _ _ _ rfl (HO4.out.drew.alloc _) wr.heap.size 1 (y1 + x * y2) _ (bits_xor y1 (x * y2)) rfl (by go_cell) (by omega) (by simp; omega) ?_
              intro A5 c5 w5 hown5 hb5
              refine hK.out _ _ (hHeld.trans hb5) (fun hHeld => ?_)
              clear hK K
              (try simp only [List.setIfInBounds_toArray, List.set_cons_zero, List.set_cons_succ])
              refine take_in (v := ?_) 14 15 rfl rfl (by kernel_rfl) (by kernel_rfl) (by kernel_rfl) (fun _ _ _ h => h) (by rfl) ?_ (by assumption) ?_
              rotate_left 1
              · (intro w hSw; go_simp; (try with_reducible rfl))
              (try simp only [List.setIfInBounds_toArray, List.set_cons_zero, List.set_cons_succ])
              refine wpAnyH_done (by kernel_rfl) ?_ _
              go_wp2_with fail -- MARK
              go_roundw
              case rel => exact ⟨t + 1, A5, c5, by omega, by go_num, rfl, by rw [← HT.out]; exact hown5, hHeld⟩
              case measure => simp only [intOf]; omega
            · obtain rfl : t = m - 1 := by omega
              rw [← HST.out] at HO4
              go_wp2_with fail
              go_roundw
              case rel => exact ⟨j + 1, m - 1, A4, c4, by omega, by omega, by go_num, rfl, by rw [HM.out]; exact HO4.out.less' hsq, HB.out.trans (HB4.out.mono hsq)⟩
              case measure => simp only [intOf]; omega
        · have hmj : m = r - j := by
            have h2 := HO.out.len
            rw [modL_length, SL.out, List.length_take, HPS.out] at h2
            omega
          have HPS2 := Lib.hid (show modL n (gs.take j) s0 = petS n r gs l by
            rw [HPT.out]
            by_cases h : j < ng
            · have hm0 : m = 0 := by omega
              have h2 := HO.out.len
              rw [hm0] at h2
              have h3 := List.eq_nil_of_length_eq_zero h2
              rw [h3, modL_stop n gs j s0 h3]
            · rw [List.take_of_length_le (by rw [HPS.out]; omega)])
          rw [HPS2.out] at HO
          have HPL := Lib.hid (petS_length n r gs l)
          have hml : m = r - ng := by rw [← HO.out.len, HPL.out, HPS.out]
          obtain ⟨s, hs⟩ : ∃ s, s = petS n r gs l := ⟨_, rfl⟩
          rw [← hs] at HO
          have HS := Lib.hid hs
          have HML := Lib.hid hml
          have hmle : m ≤ r := by omega
          have hjx : ¬ (j < ng ∧ 0 < m) := hjm
          have PD := Lib.hid (fun e d hd he => pet_dec (n := n) (r := r) (e := e) (gs := gs) (l := l) (d := d) hn HL.out HLT.out hd he)
          rw [← HS.out, HPS.out, ← HML.out] at PD
          clear hs hml hjm hbel HPS2 HPL HPT
          by_cases hj3 : j < ng
          · have hu : ¬ 0 < m := by omega
            have hrng : r < ng := by omega
            have hmz := Lib.hid (show mostZ (r : Int) ng = -1 from if_pos (by omega))
            have HN := Lib.hid (show ∀ d, ¬ Dec n r gs l d from fun d hd => by have := hd.few; rw [HPS.out] at this; omega)
            clear hjx hmj
            go_wp2_with fail
            refine (rmost_any (r : Int) ng _ (by omega)).mono ?_
            rintro e w' ⟨rfl, rfl⟩
            rw [hmz.out]
            go_wp2_with fail
            go_loop [16] (fun v => v = .int .i64 (-1)) (fun _ => 0)
            case atStart => rfl
            case round =>
              obtain rfl := hrel
              go_wp2_with fail
              go_ret2
              exact .inr ⟨HN.out, rfl, HB.out⟩
          · clear hjx hmj
            go_wp2_with fail
            refine (rmost_any (r : Int) ng _ (by omega)).mono ?_
            rintro e w' ⟨rfl, rfl⟩
            go_wp2_with fail
            obtain ⟨E0, hE0, hE1⟩ : ∃ E0 : Nat, mostZ (r : Int) ng = (E0 : Int) - 1 ∧ (0 < E0 → 2 * (E0 - 1) + ng ≤ r) ∧ ∀ u : Nat, 2 * u + ng ≤ r → u < E0 := by
              unfold mostZ
              by_cases h : (r : Int) < (ng : Int)
              · exact ⟨0, by rw [if_pos h]; rfl, fun h => by omega, fun u hu => by omega⟩
              · exact ⟨(r - ng) / 2 + 1, by rw [if_neg h]; omega, fun _ => by omega, fun u hu => by omega⟩
            obtain ⟨hE1, hE2⟩ := hE1
            rw [hE0]
            have HE1 := Lib.hid hE1
            have HINV := Lib.hid (show ∀ d, Dec n r gs l d → unl gs d l n < E0 from fun d hd => hE2 _ (by have := hd.few; rw [HPS.out] at this; exact this))
            have hE3 : E0 ≤ 256 := by
              rcases Nat.eq_zero_or_pos E0 with h | h
              · omega
              · have := hE1 h; omega
            have hEr : 0 < E0 → ng ≤ r := fun h => by have := hE1 h; omega
            clear hE0 hE1 hE2
            have B4 := Lib.hid HB.out
            obtain ⟨w4, rfl⟩ : ∃ w4, w4 = wq := ⟨_, rfl⟩
            go_loopw [16] (fun v wr => ∃ E1 : Nat, E1 ≤ E0 ∧ v = .int .i64 ((E1 : Int) - 1) ∧ Hid (∀ d, Dec n r gs l d → unl gs d l n < E1) ∧ Below w4.heap.size w4 wr) (fun v _ => (intOf v + 1).toNat)
            case atStart => exact ⟨E0, Nat.le_refl _, rfl, HINV, Below.refl _ _⟩
            case round =>
              obtain ⟨E1, hE1, rfl, HV, hbel⟩ := hrel
              have HBE := Lib.hid hbel
              by_cases hpos : 0 < E1
              · obtain ⟨e, rfl⟩ : ∃ e, E1 = e + 1 := ⟨E1 - 1, by omega⟩
                have he2 : 2 * e + ng ≤ r := by have := HE1.out (by omega); omega
                have hme : m = r - ng := HML.out
                have hem : 2 * e ≤ m := by omega
                have HML2 := Lib.hid hme
                clear hme
                rw [show ((e + 1 : Nat) : Int) - 1 = (e : Int) by omega]
                obtain ⟨wq, rfl⟩ : ∃ wq, wq = wr := ⟨_, rfl⟩
                have HOS := Lib.hid (HO.out.below hbel)
                clear hbel
                go_wp2_with fail
                go_loopw [17, 18] (fun v u wr => ∃ (t : Nat) (A4 : Option Addr) (c4 : Nat) (h : Nat → Nat × Nat), t ≤ m - e ∧ u = .int .i64 t ∧ v = .slice A4 t c4 ∧ Mat wr wq.heap.size A4 c4 t e h (hkF s) ∧ Below wq.heap.size wq wr) (fun _ u _ => m - e - (intOf u).toNat)
                case atStart => exact ⟨0, none, 0, fun _ => (0, 0), Nat.zero_le _, rfl, rfl, ⟨OwnV.nil _ _ _, fun i hi => absurd hi (by omega), fun i _ hi => absurd hi (by omega)⟩, Below.refl _ _⟩
                case round =>
                  obtain ⟨t, A4, c4, h, ht, rfl, rfl, hmat, hbel⟩ := hrel
                  have HM := Lib.hid hmat
                  have HBB := Lib.hid hbel
                  have hsq := hbel.size
                  clear hmat
                  by_cases htm : t + e < m
                  · obtain ⟨g3, rfl, hg3a, hg3b⟩ := HOS.out.form (by omega)
                    have HSR := Lib.hid (HOS.out.below hbel)
                    have hcap := HOS.out.cap
                    have RS := Lib.hid (show Rd wr wq.heap.size (some ⟨g3, t, none⟩) (tab (e + 1) (hkF s t)) from fun _ => ⟨g3, t, rfl, hg3b, fun i hi => by
                      rw [tab_length] at hi
                      rw [tab_getD _ _ _ hi]
                      exact HSR.out.cell (j := t + i) (by omega)⟩)
                    have hsub : t + e + 1 - t = e + 1 := by omega
                    clear hbel
                    go_wp2_with (first
                      | (refine wpList_ext _ rfl (.tmp 111) (.tmp 118) rfl wr.heap.size _ 0 _ [] rfl (Own.lit wr wr.heap.size [] _ (Nat.le_refl _) (by decide) rfl) (some ⟨g3, t, none⟩) (t + e + 1 - t) _ wq.heap.size (tab (e + 1) (hkF s t)) rfl ((tab_length _ _).trans hsub.symm) (RS.out.below ((balloc wr _).mono hsq)) (by omega) (by simp) ?_; intro A5 c5 w5 hown5 hb5 hg5; simp only [Nat.zero_add, List.nil_append, hsub] at hown5; rw [Nat.zero_add, hsub]; obtain ⟨g5, rfl, hg5a, hg5b⟩ := hown5.form (by omega); have O5 := Lib.hid hown5; have B5 := Lib.hid ((balloc wr (.cells #[] 29)).trans hb5); have HM5 := Lib.hid (HM.out.below B5.out); have hs5 := B5.out.size; clear hown5 hb5 hg5)
                      | (refine wpList_pushV row_el _ rfl (.tmp 110) (.tmp 120) rfl wq.heap.size _ _ _ _ rfl (HM5.out.top.alloc _) w5.heap.size 1 (.slice (some ⟨g5, 0, none⟩) (e + 1) c5) rfl rfl (by go_cell) (by omega) (by simp; omega) ?_; intro A6 c6 w6 hown6 hb6 hg6))
                    have hm6 := (HM5.out.alloc (.cells #[.slice (some ⟨g5, 0, none⟩) (e + 1) c5] 22)).push ((O5.out.less' hsq).alloc _) (fun i' hi' => by have := (HM.out.blk hi').2; omega) hown6 hg6
                    have M6 := Lib.hid hm6
                    have B6 := Lib.hid ((((HBB.out.trans (B5.out.mono hsq))).alloc (by omega) (.cells #[.slice (some ⟨g5, 0, none⟩) (e + 1) c5] 22)).trans hb6)
                    clear hown6 hb6 hg6 hm6
                    go_roundw
                    case rel => exact ⟨t + 1, A6, c6, _, by omega, by go_num, rfl, M6.out, B6.out⟩
                    case measure => simp only [intOf]; omega
                  · have HJ := Lib.hid (show t = m - e by omega)
                    clear hbel
                    go_wp2_with fail
                    refine (solve_gen A4 c4 t e wq.heap.size h (hkF s) _ HM.out (by omega) (by omega) hsq).mono ?_
                    rintro e' w5 hret
                    rcases hret with ⟨A5, c5, x, rfl, ho5, hsol, hb5⟩ | ⟨rfl, hno, hb5⟩
                    · have X5 := Lib.hid ho5
                      have B5 := Lib.hid (HBE.out.trans ((HBB.out.trans hb5).mono HBE.out.size))
                      have HSOL := Lib.hid (show Sol (m - e) e (hkF s) x by rw [← HJ.out]; exact hsol)
                      have HPX := Lib.hid (fun d hd he => (PD.out e d hd he).2 x HSOL.out)
                      have BW5 := Lib.hid (bstep B4.out (Nat.le_refl _) B5.out)
                      have G5 := Lib.hid ((HRG.out.below BW5.out).more BW5.out.size)
                      have V5 := Lib.hid G5.out.rdV
                      have HLE := Lib.hid (show ∀ d, Dec n r gs l d → (locRoots n e x gs n).length ≠ e → unl gs d l n < e from fun d hd hne => by
                        have h1 := HV.out d hd
                        rcases Nat.lt_or_ge (unl gs d l n) e with h2 | h2
                        · exact h2
                        · exact absurd (HPX.out d hd (by omega)).1 hne)
                      have HLF := Lib.hid (show ∀ d, Dec n r gs l d → (∀ d, ¬ Filled n r (gs ++ locRoots n e x gs n) l d) → unl gs d l n < e from fun d hd hne => by
                        have h1 := HV.out d hd
                        rcases Nat.lt_or_ge (unl gs d l n) e with h2 | h2
                        · exact h2
                        · exact absurd (HPX.out d hd (by omega)).2 (hne d))
                      have LF := Lib.hid (locRoots_facts n e x HND.out HLT.out)
                      have HE256 : e ≤ 255 := by omega
                      clear hsol ho5 hb5 HM HBB HPX PD HSOL HV HOS HO HB
                      go_wp2_with (refine wpList_extV int_el _ rfl _ _ rfl w5.heap.size _ 0 _ [] rfl (OwnV.lit w5 w5.heap.size [] _ (Nat.le_refl _) (by decide) rfl) Ag ng cg w5.heap.size (gs.map pv64) (by intro u hu; obtain ⟨_, _, rfl⟩ := List.mem_map.1 hu; rfl) rfl (by rw [List.length_map]; exact HPS.out) (V5.out.below (balloc w5 _)) (by omega) (by simp) ?_; intro A6 c6 w6 hown6 hb6 hg6; simp only [Nat.zero_add, List.nil_append] at hown6)
                      have O6 := Lib.hid hown6
                      have B6 := Lib.hid ((balloc w5 (.cells #[] 3)).trans hb6)
                      clear hown6 hb6 hg6
                      go_loopw [21, 22] (fun v u wr => ∃ (i m6 : Nat) (A7 : Option Addr) (c7 : Nat), i ≤ n ∧ m6 ≤ ng + i ∧ u = .int .i64 i ∧ v = .slice A7 m6 c7 ∧ OwnV 3 wr w5.heap.size A7 m6 c7 ((gs ++ locRoots n e x gs i).map pv64) ∧ Below w5.heap.size w5 wr) (fun _ u _ => n - (intOf u).toNat)
                      case atStart => exact ⟨0, ng, A6, c6, Nat.zero_le _, by omega, rfl, rfl, by rw [show locRoots n e x gs 0 = [] from rfl, List.append_nil]; exact O6.out, B6.out⟩
                      case round =>
                        obtain ⟨i, m6, A7, c7, hi, hm6, rfl, rfl, hown, hbel⟩ := hrel
                        have HO7 := Lib.hid hown
                        have HB7 := Lib.hid hbel
                        have hs7 := hbel.size
                        have hm6l : m6 = ng + (locRoots n e x gs i).length := by
                          have := hown.len
                          rw [List.length_map, List.length_append, HPS.out] at this
                          exact this.symm
                        obtain ⟨w7, rfl⟩ : ∃ w7, w7 = wr := ⟨_, rfl⟩
                        clear hown O6 B6
                        by_cases hin : i < n
                        · obtain ⟨y, hy⟩ : ∃ y, y = F.px (n - 1 - i) := ⟨_, rfl⟩
                          have HRY := Lib.hid (locRoots_next_yes (n := n) (e := e) (c := x) (gs := gs) (k := i))
                          have HRN := Lib.hid (locRoots_next_no (n := n) (e := e) (c := x) (gs := gs) (k := i))
                          rw [← hy] at HRY HRN
                          have HY := Lib.hid hy
                          generalize locRoots n e x gs i = o at HO7 HRY HRN hm6l
                          obtain ⟨lo, hlo⟩ : ∃ lo, lo = loc e x := ⟨_, rfl⟩
                          rw [← hlo] at HRY HRN
                          have LE := Lib.hid (loc_end e x y)
                          have LS := Lib.hid (fun k => loc_step (e := e) (k := k) x y)
                          rw [← hlo] at LE LS
                          have X7 := Lib.hid (X5.out.below HB7.out)
                          clear hlo hy hbel hm6l
                          go_wp2_with fail
                          refine (rpoint_any n i _ hin hn).mono ?_
                          rintro e' w' ⟨rfl, rfl⟩
                          rw [← HY.out]
                          go_wp2_with fail
                          go_loopw [24, 25] (fun v u wr => ∃ k : Nat, k ≤ e ∧ u = .int .i64 ((k : Int) - 1) ∧ v = .int .u16 (pv (lo.drop k) y).nat ∧ Below w7.heap.size w7 wr) (fun _ u _ => (intOf u + 1).toNat)
                          case atStart => exact ⟨e, Nat.le_refl _, rfl, by rw [LE.out]; rfl, Below.refl _ _⟩
                          case round =>
                            obtain ⟨k, hk, rfl, rfl, hbel⟩ := hrel
                            have HB8 := Lib.hid hbel
                            by_cases hk0 : 0 < k
                            · obtain ⟨j, rfl⟩ : ∃ j, k = j + 1 := ⟨k - 1, by omega⟩
                              obtain ⟨g5, rfl, hg5a, hg5b⟩ := X7.out.form (by omega)
                              have cc := (X7.out.below hbel).cell (j := j) (by omega)
                              rw [tab_getD _ _ _ (show j < e by omega)] at cc
                              have HS := Lib.hid (LS.out j (by omega))
                              generalize pv (lo.drop (j + 1)) y = v1 at HS
                              generalize x j = v2 at cc HS
                              rw [show ((j + 1 : Nat) : Int) - 1 = (j : Int) by omega]
                              have q1 : (0 : Int) ≤ (j : Int) := by omega
                              have q2 : (j : Int) < (e : Int) := by omega
                              have q3 : IntKind.i64.wrap ((j : Int) - 1) = (j : Int) - 1 := IntWalk.i64_in _ ⟨by omega, by omega⟩
                              clear hbel
                              go_wp2_with fail
                              go_quiet ((go_at_call 26; exact qs (rmul_any _ _ v1 y _ rfl rfl)))
                              go_wp2_with fail
                              go_roundw
                              case rel => exact ⟨j, by omega, rfl, by rw [HS.out]; exact vxor _ _, below_drewN HB8.out _⟩
                              case measure => simp only [intOf]; omega
                            · obtain rfl : k = 0 := by omega
                              rw [List.drop_zero]
                              obtain ⟨w8, rfl⟩ : ∃ w8, w8 = wr := ⟨_, rfl⟩
                              have HO8 := Lib.hid (HO7.out.below hbel)
                              have BB8 := Lib.hid (HB7.out.trans (HB8.out.mono hs7))
                              have hs8 := BB8.out.size
                              clear hbel HO7 HB7 HB8 X7 LE LS
                              go_wp2_with fail
                              go_loop [26, 27] (fun v u => ∃ j : Nat, j ≤ ng ∧ u = .int .i64 j ∧ v = .bool (decide (i ∈ gs.take j))) (fun _ u => ng - (intOf u).toNat)
                              case atStart => exact ⟨0, Nat.zero_le _, rfl, rfl⟩
                              case round =>
                                obtain ⟨j, hj, rfl, rfl⟩ := hrel
                                by_cases hjm : j < ng
                                · obtain ⟨b, off, rfl, hb, hc⟩ := (G5.out.below BB8.out) (by rw [HPS.out]; omega)
                                  have cc := hc j (by rw [HPS.out]; exact hjm)
                                  have hjl : j < gs.length := by rw [HPS.out]; exact hjm
                                  clear hc
                                  by_cases hig : i ∈ gs.take j
                                  · have e1 := decide_eq_true hig
                                    have HN := Lib.hid (decide_eq_true (take_mem_yes hig))
                                    clear hig cc hjl
                                    go_wp2_with fail
                                    go_round
                                    case rel => exact ⟨j + 1, by omega, by go_num, of_decide_eq_true HN.out⟩
                                    case measure => simp only [intOf]; omega
                                  · have e1 := decide_eq_false hig
                                    by_cases he : gs.getD j 0 = i
                                    · have HN := Lib.hid (decide_eq_true (take_mem_here hjl he))
                                      have e2 := ieqP he
                                      clear hig he hjl
                                      generalize gs.getD j 0 = u at cc e2
                                      go_wp2_with fail
                                      go_round
                                      case rel => exact ⟨j + 1, by omega, by go_num, of_decide_eq_true HN.out⟩
                                      case measure => simp only [intOf]; omega
                                    · have HN := Lib.hid (decide_eq_false (take_mem_no hjl hig he))
                                      have e2 := ineP he
                                      clear hig he hjl
                                      generalize gs.getD j 0 = u at cc e2
                                      go_wp2_with fail
                                      go_round
                                      case rel => exact ⟨j + 1, by omega, by go_num, of_decide_eq_false HN.out⟩
                                      case measure => simp only [intOf]; omega
                                · obtain rfl : j = ng := by omega
                                  rw [List.take_of_length_le (by rw [HPS.out]; exact Nat.le_refl _)]
                                  by_cases hv : pv lo y = 0
                                  · have e0 := feq0 hv
                                    by_cases hig : i ∈ gs
                                    · have e1 := decide_eq_true hig
                                      have HN := Lib.hid (HRN.out (fun h => h.2 hig))
                                      clear hig hv HRY HRN
                                      generalize pv lo y = v1 at e0 ⊢
                                      go_wp2_with fail
                                      go_roundw
                                      case rel => exact ⟨i + 1, m6, A7, c7, by omega, by omega, by go_num, rfl, by rw [HN.out]; exact HO8.out, BB8.out⟩
                                      case measure => simp only [intOf]; omega
                                    · have e1 := decide_eq_false hig
                                      have HN := Lib.hid (HRY.out hv hig)
                                      clear hig hv HRY HRN
                                      generalize pv lo y = v1 at e0 ⊢
                                      go_wp2_with (at_builtin; refine wpList_pushV int_el _ rfl _ _ rfl w5.heap.size _ _ _ _ rfl (HO8.out.alloc _) w8.heap.size 1 (pv64 i) rfl rfl (by unfold pv64; go_cell) (by omega) (by simp; omega) ?_; intro A9 c9 w9 hown9 hb9 hg9)
                                      go_roundw
                                      case rel => exact ⟨i + 1, m6 + 1, A9, c9, by omega, by omega, by go_num, rfl, by rw [HN.out, ← List.append_assoc, List.map_append]; exact hown9, (BB8.out.alloc hs8 _).trans hb9⟩
                                      case measure => simp only [intOf]; omega
                                  · have e0 := feq0' hv
                                    have HN := Lib.hid (HRN.out (fun h => hv h.1))
                                    clear hv HRY HRN
                                    generalize pv lo y = v1 at e0 ⊢
                                    go_wp2_with fail
                                    go_roundw
                                    case rel => exact ⟨i + 1, m6, A7, c7, by omega, by omega, by go_num, rfl, by rw [HN.out]; exact HO8.out, BB8.out⟩
                                    case measure => simp only [intOf]; omega
                        · have HI := Lib.hid (show i = n by omega)
                          rw [HI.out] at HO7 hm6l
                          have HB8 := Lib.hid (B5.out.trans (HB7.out.mono B5.out.size))
                          have LF2 := Lib.hid (LF.out n (Nat.le_refl _))
                          generalize locRoots n e x gs n = o at HO7 hm6l HLE HLF LF2
                          have HML6 := Lib.hid hm6l
                          clear hbel hm6l LF
                          by_cases hbig : ng + e < m6
                          · have HV2 := Lib.hid (fun d hd => HLE.out d hd (by have := HML6.out; omega))
                            go_wp2_with fail
                            go_roundw
                            case rel => exact ⟨e, by omega, by go_num, HV2, HB8.out⟩
                            case measure => simp only [intOf]; omega
                          · have BW7 := Lib.hid (bstep B4.out (Nat.le_refl _) HB8.out)
                            have HRD7 := Lib.hid ((HRD.out.below BW7.out).more BW7.out.size)
                            have HOL := Lib.hid (show (gs ++ o).length = m6 by rw [List.length_append, HPS.out]; exact HML6.out.symm)
                            go_wp2_with fail
                            refine (erased_any A A7 n c r m6 c7 l (gs ++ o) _ HL.out HRD7.out HOL.out HO7.out.rd.rdG hn hn1 hrn (by omega) LF2.out.1 LF2.out.2.1).mono ?_
                            rintro e' w9 hret
                            rcases hret with ⟨A9, c9, d, rfl, ho9, hf9, hb9⟩ | ⟨rfl, hno9, hb9⟩
                            · have HD := Lib.hid (dec_of_filled hf9 (e := e) (by have := HML6.out; omega) (by rw [HPS.out]; exact he2))
                              have HRB := Lib.hid (show rightB d (r : Int) = true from (rightB_iff (by rw [hf9.len]; exact hn)).2 ⟨by rw [hf9.len]; exact hrn, hf9.right⟩)
                              have HDL := Lib.hid hf9.len
                              have O9 := Lib.hid ho9
                              have B9 := Lib.hid (bstep BW7.out (Nat.le_refl _) hb9)
                              have hsw := BW7.out.size
                              clear ho9 hf9 hb9
                              go_wp2_with fail
                              refine (rright_any A9 n c9 r d _ HDL.out O9.out.rd (by omega)).mono ?_
                              rintro e' w10 ⟨rfl, hb10⟩
                              rw [HRB.out]
                              have O10 := Lib.hid ((O9.out.below hb10).less' hsw)
                              have B10 := Lib.hid (bstep B9.out (Nat.le_refl _) hb10)
                              clear hb10
                              go_wp2_with fail
                              go_ret2
                              exact .inl ⟨A9, c9, d, rfl, O10.out, HD.out, B10.out⟩
                            · have HV2 := Lib.hid (fun d hd => HLF.out d hd hno9)
                              have B9 := Lib.hid (HB8.out.trans (hb9.mono HB8.out.size))
                              clear hno9 hb9
                              go_wp2_with fail
                              go_roundw
                              case rel => exact ⟨e, by omega, by go_num, HV2, B9.out⟩
                              case measure => simp only [intOf]; omega
                    · have HV2 := Lib.hid (show ∀ d, Dec n r gs l d → unl gs d l n < e from fun d hd => by
                        have h1 := HV.out d hd
                        rcases Nat.lt_or_ge (unl gs d l n) e with h2 | h2
                        · exact h2
                        · exact absurd (by rw [← HJ.out]; exact hno) (PD.out e d hd (by omega)).1)
                      have B5 := Lib.hid (HBE.out.trans ((HBB.out.trans hb5).mono HBE.out.size))
                      clear hno hb5
                      go_wp2_with fail
                      go_roundw
                      case rel => exact ⟨e, by omega, by go_num, HV2, B5.out⟩
                      case measure => simp only [intOf]; omega
              · obtain rfl : E1 = 0 := by omega
                have HN := Lib.hid (show ∀ d, ¬ Dec n r gs l d from fun d hd => absurd (HV.out d hd) (by omega))
                have B9 := Lib.hid (bstep B4.out (Nat.le_refl _) hbel)
                go_wp2_with fail
                go_ret2
                exact .inr ⟨HN.out, rfl, B9.out⟩
end Go.Proofs.Ytbahelhhkmonmaa
