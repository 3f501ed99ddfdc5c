/- The walk of decode.mend. -/
import Derived.Test.YthejbmjleohlfaaDw
namespace Go.Proofs.Ythejbmjleohlfaa
open Go.RowKit Go.Shelf

/-- What stands at a place behind mend. -/
def mendAt (n : Nat) (l loc b : List F) (i : Nat) : F :=
  if pv loc (F.inv (F.px (n - 1 - i))) = 0 ∧ pv (slopeL loc) (F.inv (F.px (n - 1 - i))) ≠ 0 then l.getD i 0 + F.px (n - 1 - i) * (pv b (F.inv (F.px (n - 1 - i))) * F.inv (pv (slopeL loc) (F.inv (F.px (n - 1 - i))))) else l.getD i 0
def mendL (n : Nat) (l loc b : List F) : List F := tab n (mendAt n l loc b)
/-- In the midst of mend. -/
def mendTo (n k : Nat) (l loc b : List F) : List F := tab n (fun i => if i < k then mendAt n l loc b i else l.getD i 0)
theorem mendTo_start {n : Nat} {l : List F} (hl : l.length = n) (loc b : List F) : l = mendTo n 0 l loc b := tab_ext hl fun j _ => by rw [if_neg (by omega)]
theorem mendTo_done (n : Nat) (l loc b : List F) : mendTo n n l loc b = mendL n l loc b := tab_congr fun j hj => by rw [if_pos hj]
theorem mendTo_at {n k : Nat} (hk : k < n) (l loc b : List F) : (mendTo n k l loc b).getD k 0 = l.getD k 0 := by
  rw [mendTo, tab_getD _ _ _ hk, if_neg (by omega)]
theorem mendTo_set {n k : Nat} (l loc b : List F) (hk : k < n) {v : F} (hv : v = mendAt n l loc b k) : (mendTo n k l loc b).set k v = mendTo n (k + 1) l loc b := by
  refine tab_ext (by rw [List.length_set, mendTo, tab_length]) fun j hj => ?_
  by_cases e : k = j
  · subst e
    rw [getD_set_eq _ (by rw [mendTo, tab_length]; exact hk), if_pos (by omega), hv]
  · rw [getD_set_ne _ e, mendTo, tab_getD _ _ _ hj]
    by_cases h2 : j < k
    · rw [if_pos h2, if_pos (by omega)]
    · rw [if_neg h2, if_neg (by omega)]
theorem mendTo_skip {n k : Nat} (l loc b : List F) (hk : k < n) (hv : mendAt n l loc b k = l.getD k 0) : mendTo n k l loc b = mendTo n (k + 1) l loc b := by
  rw [← mendTo_set l loc b hk rfl, hv]
  refine (tab_ext (by rw [List.length_set, mendTo, tab_length]) fun j hj => ?_).symm
  by_cases e : k = j
  · subst e
    rw [getD_set_eq _ (by rw [mendTo, tab_length]; exact hk), if_neg (by omega)]
  · rw [getD_set_ne _ e, mendTo, tab_getD _ _ _ hj]
theorem below_drew_in {B : Nat} {w w' : World} (h : Below B w.drew w') : Below B w w' := ⟨h.os, h.tape, h.output, h.size, h.block⟩
theorem Own.len_tab {w : World} {B n c : Nat} {A : Option Addr} {l : List F} (h : Own w B A n c l) : n = l.length := h.len.symm

/-- Handed back: the word, mended by what locate tells. -/
def RetMend (w : World) (n r g : Nat) (l gone X : List F) (e : Ending) (w' : World) : Prop := ∃ (A : Option Addr) (c : Nat) (t b : List F),
  e = .returned (.slice A n c) ∧ Own w' w.heap.size A n c (mendL n l (mulL t gone) b) ∧ Below w.heap.size w w' ∧ Located r g X t b
set_option maxRecDepth 100000 in
set_option maxHeartbeats 4000000 in
theorem mend_any (g : Nat) (pf Al Ag : Option Addr) (nl cl r ng cg : Nat) (l : List F) (gs : List Nat) (w : World) (h : WordAt w g pf Al nl cl r Ag ng cg) (hg : g < w.heap.size) (hl : l.length = nl) (hrd : Rd w w.heap.size Al l) (hn : nl ≤ 255) (hr : r ≤ 255)
    (hgs : gs.length = ng) (hgr : ng ≤ r) (hrg : RdG w w.heap.size Ag gs) (hlt : ∀ j, j < ng → gs.getD j 0 < nl) :
    Calls Try.prog 42 #[.pointer (some ⟨g, 0, none⟩)] w (RetMend w nl r ng l (goneL nl gs) (shortL ((mulL (goneL nl gs) (sumsL l r)).take r))) := by
  have hloc := locate_any g pf Al Ag nl cl r ng cg l gs w h hg hl hrd hn hr hgs hgr hrg hlt
  have hXl := shortL_length ((mulL (goneL nl gs) (sumsL l r)).take r)
  rw [List.length_take] at hXl
  have hX : (shortL ((mulL (goneL nl gs) (sumsL l r)).take r)).length ≤ r := by omega
  have hgl := goneL_length nl gs
  rw [hgs] at hgl
  generalize shortL ((mulL (goneL nl gs) (sumsL l r)).take r) = X at hloc hX ⊢
  generalize goneL nl gs = gone at hloc hgl ⊢
  have HLOC := Lib.hid hloc
  have HL := Lib.hid hl
  have HRD := Lib.hid hrd
  have HW := Lib.hid h
  have c1 := h.l
  have c0 := h.f
  clear hl hrd h hgs hrg hlt hloc hXl
  go_enter Try.func42, Try.ntmps42
  go_wp2_with fail
  refine HLOC.out.mono ?_
  rintro e w1 ⟨A1, A2, k1, k2, t, b, rfl, ho1, ho2, hb1, hloc⟩
  obtain ⟨a, s, E, hbl⟩ := hloc
  have HE := Lib.hid E
  have htl := E.tl
  have hal := E.big
  have hbl' : b.length ≤ r := by have := E.top; have := E.less; omega
  have hml := mulL_length t gone
  have htl' : t.length ≤ r + 2 := by omega
  clear E htl hal
  generalize hloc : mulL t gone = loc at ho1 hml ⊢
  have HLO := Lib.hid hloc
  obtain ⟨n1, hn1⟩ : ∃ n, n = loc.length := ⟨_, rfl⟩
  obtain ⟨n2, hn2⟩ : ∃ n, n = b.length := ⟨_, rfl⟩
  rw [← hn1] at ho1 hml ⊢
  rw [← hn2] at ho2 hbl' ⊢
  have O1 := Lib.hid ho1
  have O2 := Lib.hid ho2
  have HB1 := Lib.hid hb1
  have HBL := Lib.hid hbl
  clear hloc hn1 hn2 ho1 ho2 hb1 hbl
  go_wp2_with fail
  refine (slope_any A1 n1 k1 loc _ O1.out.len (by exact O1.out.rd) (by omega) O1.out.cap.1 O1.out.cap.2).mono ?_
  rintro e w2 ⟨A3, k3, rfl, ho3, hb2⟩
  have hsl : (slopeL loc).length ≤ n1 := by
    have h1 := shortL_length (slopeR loc)
    have h2 : (slopeR loc).length = loc.length - 1 := tab_length _ _
    have h3 := O1.out.len
    show (shortL (slopeR loc)).length ≤ n1
    omega
  obtain ⟨n3, hn3⟩ : ∃ n, n = (slopeL loc).length := ⟨_, rfl⟩
  rw [← hn3] at ho3 hsl ⊢
  have O3 := Lib.hid ho3
  replace O1 := Lib.hid (O1.out.below hb2)
  replace O2 := Lib.hid (O2.out.below hb2)
  replace HB1 := Lib.hid (bstep HB1.out (Nat.le_refl _) hb2)
  have c1' := (HB1.out.cell (p := ⟨g, 1, none⟩) hg).trans c1
  have HR2 := Lib.hid ((HRD.out.below HB1.out).more HB1.out.size)
  have L1 := Lib.hid O1.out.len
  have L2 := Lib.hid O2.out.len
  have L3 := Lib.hid O3.out.len
  clear ho3 hn3 hb2 c1
  go_wp2_with fail
  refine (clone_any Al nl cl l _ HL.out (by exact HR2.out) (by omega)).mono ?_
  rintro e w3 ⟨A4, k4, rfl, ho4, hb3⟩
  rw [HL.out] at ho4 ⊢
  rw [mendTo_start HL.out loc b] at ho4
  have hsz3 := HB1.out.size
  have R1 := Lib.hid (O1.out.rd.below hb3)
  have R2 := Lib.hid (O2.out.rd.below hb3)
  have R3 := Lib.hid (O3.out.rd.below hb3)
  have HB3 := Lib.hid (bstep HB1.out (Nat.le_refl _) hb3)
  have O4 := Lib.hid ho4
  have HW3 := Lib.hid (HW.out.below HB3.out hg)
  have hsz23 := hb3.size
  clear ho4 hb3 c1' c0 HW HRD HR2 O1 O2 O3
  obtain ⟨B4, hB4⟩ : ∃ B, B = w2.heap.size := ⟨_, rfl⟩
  rw [← hB4] at O4 hsz3 hsz23 R1 R2 R3
  clear hB4 HB1
  go_wp2_with fail
  go_loopw [27] (fun j wr => ∃ (k : Nat), k ≤ nl ∧ j = .int .i64 k ∧ Own wr B4 A4 nl k4 (mendTo nl k l loc b) ∧ Below B4 w3 wr) (fun j _ => nl - (intOf j).toNat)
  case atStart => exact ⟨0, by omega, rfl, O4.out, Below.refl _ _⟩
  case round =>
    obtain ⟨k, hk, rfl, hown, hbel⟩ := hrel
    have HO := Lib.hid hown
    have HB := Lib.hid hbel
    have hszr := hbel.size
    clear O4
    by_cases hkn : k < nl
    · have HWr := Lib.hid (HW3.out.below hbel (by omega))
      have HR1 := Lib.hid (R1.out.below hbel)
      have HR2 := Lib.hid (R2.out.below hbel)
      have HR3 := Lib.hid (R3.out.below hbel)
      have hat := mendTo_at hkn l loc b
      have HSKIP := Lib.hid (mendTo_skip (k := k) l loc b hkn)
      have HSET := Lib.hid (fun v => mendTo_set (k := k) l loc b hkn (v := v))
      clear hown
      go_wp2_with fail
      refine (point_any g pf Al Ag nl cl r ng cg k _ HWr.out hkn hn).mono ?_
      rintro e wp ⟨rfl, q, rfl⟩
      have d0 := HWr.out.f
      generalize hx : F.px (nl - 1 - k) = x
      have HX := Lib.hid hx
      clear hx
      go_wp2_with fail
      refine (inv_any _ _ x _ rfl).mono ?_
      rintro e wD ⟨rfl, rfl⟩
      generalize hback : F.inv x = back
      have HBK := Lib.hid hback
      clear hback
      go_wp2_with fail
      refine (at_any A1 n1 k1 loc back _ L1.out (by omega) (by exact (HR1.out.below (below_drewN (Below.refl _ _) q)).more (by simp; omega))).mono ?_
      rintro e wA ⟨rfl, hbA⟩
      generalize hlv : pv loc back = lv
      have HLV := Lib.hid hlv
      have HBA := Lib.hid (bstep (below_drewN (Below.refl wr.heap.size wr) q) (Nat.le_refl _) hbA)
      have hBA := Nat.le_trans (Nat.le_trans hsz23 hszr) HBA.out.size
      have hgA : g < wA.heap.size := by omega
      have d0A := (HBA.out.cell (p := ⟨g, 0, none⟩) (by show g < wr.heap.size; omega)).trans d0
      have R2A := Lib.hid (HR2.out.below (HBA.out.mono (by omega)))
      have R3A := Lib.hid (HR3.out.below (HBA.out.mono (by omega)))
      have OA := Lib.hid (HO.out.below HBA.out)
      have HBW := Lib.hid (HB.out.trans (HBA.out.mono (by omega)))
      clear hlv hbA d0 HB HO hbel HR1 HR2 HR3 HWr HBA
      by_cases hz : lv = 0
      · have t1 := fne0 hz
        go_wp2_with fail
        refine wp_region_held_drew (S := fun w' => Below wA.heap.size wA w') (by kernel_rfl) (Below.refl _ _).drew (fun hHeld => ?_)
        refine take_in (v := ?_) 47 0 rfl rfl (by kernel_rfl) (by kernel_rfl) (by kernel_rfl) (fun _ _ _ h => h) (by rfl) ?_ (by assumption) ?_
        rotate_left 1
        · (intro w hSw; go_simp; (try with_reducible rfl))
        (try simp only [List.setIfInBounds_toArray, List.set_cons_zero, List.set_cons_succ])
        refine take_in (v := ?_) 48 1 rfl rfl (by kernel_rfl) (by kernel_rfl) (by kernel_rfl) (fun _ _ _ h => h) (by rfl) ?_ (by assumption) ?_
        rotate_left 1
        · (intro w hSw; go_simp; (try with_reducible rfl))
        (try simp only [List.setIfInBounds_toArray, List.set_cons_zero, List.set_cons_succ])
        refine take_in (v := ?_) 49 2 rfl rfl (by kernel_rfl) (by kernel_rfl) (by kernel_rfl) (fun _ _ _ h => h) (by rfl) ?_ (by assumption) ?_
        rotate_left 1
        · (intro w hSw; go_simp; (try with_reducible rfl))
        (try simp only [List.setIfInBounds_toArray, List.set_cons_zero, List.set_cons_succ])
        refine take_in (v := ?_) 50 3 rfl rfl (by kernel_rfl) (by kernel_rfl) (by kernel_rfl) (fun _ _ _ h => h) (by rfl) ?_ (by assumption) ?_
        rotate_left 1
        · (intro w hSw; have z := (Below.cell hSw (p := ⟨g, 0, none⟩) hgA).trans d0A; go_simp; (try with_reducible rfl))
        (try simp only [List.setIfInBounds_toArray, List.set_cons_zero, List.set_cons_succ])
        refine take_in (v := ?_) 51 4 rfl rfl (by kernel_rfl) (by kernel_rfl) (by kernel_rfl) (fun _ _ _ h => h) (by rfl) ?_ (by assumption) ?_
        rotate_left 1
        · (intro w hSw; go_simp; (try with_reducible rfl))
        (try simp only [List.setIfInBounds_toArray, List.set_cons_zero, List.set_cons_succ])
        refine take_in (v := ?_) 52 5 rfl rfl (by kernel_rfl) (by kernel_rfl) (by kernel_rfl) (fun _ _ _ h => h) (by rfl) ?_ (by assumption) ?_
        rotate_left 1
        · (intro w hSw; go_simp; (try with_reducible rfl))
        (try simp only [List.setIfInBounds_toArray, List.set_cons_zero, List.set_cons_succ])
        refine wpAnyH_ready (rs := [6]) (by kernel_rfl) (by simp) ?_
        refine AllReadyH.cons rfl (fun K hK => ?_) AllReadyH.nil
        go_simp
        refine (at_any A3 n3 k3 (slopeL loc) back _ L3.out (by omega) (by exact (R3A.out.below (hHeld.mono hBA)).more (Nat.le_trans hBA hHeld.size))).mono ?_
        rintro e wC ⟨rfl, hbC⟩
        generalize hsv : pv (slopeL loc) back = sv
        have HSV := Lib.hid hsv
        clear hsv

        go_wp2_with fail
        refine hK.out _ _ (bstep hHeld (Nat.le_refl _) (by assumption)) (fun hHeld => ?_)
        clear hK K
        (try simp only [List.setIfInBounds_toArray, List.set_cons_zero, List.set_cons_succ])
        refine wpAnyH_ready (rs := [7]) (by kernel_rfl) (by simp) ?_
        refine AllReadyH.cons rfl (fun K hK => ?_) AllReadyH.nil
        go_simp
        refine (inv_any _ _ sv _ rfl).mono ?_
        rintro e wD ⟨rfl, rfl⟩
        go_wp2_with fail
        refine hK.out _ _ hHeld (fun hHeld => ?_)
        clear hK K
        (try simp only [List.setIfInBounds_toArray, List.set_cons_zero, List.set_cons_succ])
        refine take_in (v := ?_) 46 8 rfl rfl (by kernel_rfl) (by kernel_rfl) (by kernel_rfl) (fun _ _ _ h => h) (by rfl) ?_ (by assumption) ?_
        rotate_left 1
        · (intro w hSw; go_simp; (try with_reducible rfl))
        (try simp only [List.setIfInBounds_toArray, List.set_cons_zero, List.set_cons_succ])
        refine take_in (v := ?_) 55 9 rfl rfl (by kernel_rfl) (by kernel_rfl) (by kernel_rfl) (fun _ _ _ h => h) (by rfl) ?_ (by assumption) ?_
        rotate_left 1
        · (intro w hSw; go_simp; (try with_reducible rfl))
        (try simp only [List.setIfInBounds_toArray, List.set_cons_zero, List.set_cons_succ])
        refine take_in (v := ?_) 56 10 rfl rfl (by kernel_rfl) (by kernel_rfl) (by kernel_rfl) (fun _ _ _ h => h) (by rfl) ?_ (by assumption) ?_
        rotate_left 1
        · (intro w hSw; go_simp; (try with_reducible rfl))
        (try simp only [List.setIfInBounds_toArray, List.set_cons_zero, List.set_cons_succ])
        refine take_in (v := ?_) 11 11 rfl rfl (by kernel_rfl) (by kernel_rfl) (by kernel_rfl) (fun _ _ _ h => h) (by rfl) ?_ (by assumption) ?_
        rotate_left 1
        · (intro w hSw; go_simp; (try with_reducible rfl))
        (try simp only [List.setIfInBounds_toArray, List.set_cons_zero, List.set_cons_succ])
        refine take_in (v := ?_) 12 12 rfl rfl (by kernel_rfl) (by kernel_rfl) (by kernel_rfl) (fun _ _ _ h => h) (by rfl) ?_ (by assumption) ?_
        rotate_left 1
        · (intro w hSw; go_simp; (try with_reducible rfl))
        (try simp only [List.setIfInBounds_toArray, List.set_cons_zero, List.set_cons_succ])
        refine wpAnyH_done (by kernel_rfl) ?_ _
        have HBCA := hHeld
        by_cases hs : sv = 0
        · have hsk : mendAt nl l loc b k = l.getD k 0 := by
            rw [mendAt, HX.out, HBK.out, HSV.out, if_neg (fun h => h.2 hs)]
          go_wp2_with fail
          go_roundw
          case rel => exact ⟨k + 1, by omega, by go_num, by rw [← HSKIP.out hsk]; exact OA.out.below HBCA, HBW.out.trans (HBCA.mono hBA)⟩
          case measure => simp only [intOf]; omega
        · have hma : mendAt nl l loc b k = l.getD k 0 + x * (pv b back * F.inv sv) := by
            rw [mendAt, HX.out, HBK.out, HLV.out, HSV.out, if_pos ⟨hz, hs⟩]
          have HMA := Lib.hid hma
          have t2 : (!decide (sv = 0)) = true := by rw [decide_eq_false hs]; rfl
          have hBC := Nat.le_trans hBA HBCA.size
          have R2C := Lib.hid (R2A.out.below (HBCA.mono hBA))
          have OC := Lib.hid (OA.out.below HBCA)
          have HBWC := Lib.hid (HBW.out.trans (HBCA.mono hBA))
          have d0C := (HBCA.cell (p := ⟨g, 0, none⟩) hgA).trans d0A
          have hgC := Nat.lt_of_lt_of_le hgA HBCA.size
          obtain ⟨g4, rfl, hg4, hlt4⟩ := OC.out.form (by omega)
          have d4 := OC.out.cell (j := k) hkn
          rw [hat] at d4
          generalize hlk : l.getD k 0 = lk at d4 HMA
          have hfz := OC.out.frozen k
          clear hma HBCA hHeld OA R2A R3A d0A hlk hat HSKIP HBW
          go_wp2_with fail
          have hgg : g ≠ g4 := by omega
          obtain ⟨bv, hbv⟩ : ∃ v, v = pv b back := ⟨_, rfl⟩
          obtain ⟨iv, hiv⟩ : ∃ v, v = F.inv sv := ⟨_, rfl⟩
          obtain ⟨m1, hm1⟩ : ∃ v, v = bv * iv := ⟨_, rfl⟩
          obtain ⟨m2, hm2⟩ : ∃ v, v = x * m1 := ⟨_, rfl⟩
          obtain ⟨m3, hm3⟩ : ∃ v, v = lk + m2 := ⟨_, rfl⟩
          rw [← hbv, ← hiv, ← hm1, ← hm2, ← hm3] at HMA
          rw [← hiv]
          have Hbv := Lib.hid hbv
          have Hm1 := Lib.hid hm1
          have Hm2 := Lib.hid hm2
          have Hm3 := Lib.hid hm3
          clear hbv hiv hm1 hm2 hm3
          have R2D := Lib.hid (show Rd wC.drew wC.drew.heap.size A2 b from R2C.out.more hBC)
          have OCD := Lib.hid OC.out.drew
          have d4D : wC.drew.cell? ⟨g4, k, none⟩ = some (.int .u16 lk.nat) := d4
          have d0D : wC.drew.cell? ⟨g, 0, none⟩ = some (.pointer pf) := d0C
          have hfzD : wC.drew.frozen? ⟨g4, k, none⟩ = false := hfz
          have hlt4D : g4 < wC.drew.heap.size := hlt4
          have hgCD : g < wC.drew.heap.size := hgC
          refine wp_region_held_drew (S := fun w' => w'.cell? ⟨g, 0, none⟩ = some (.pointer pf)) (by kernel_rfl) d0D (fun hHeld => ?_)
          refine take_in (v := ?_) 59 0 rfl rfl (by kernel_rfl) (by kernel_rfl) (by kernel_rfl) (fun _ _ _ h => h) (by rfl) ?_ (by assumption) ?_
          rotate_left 1
          · (intro w hSw; go_simp; (try with_reducible rfl))
          (try simp only [List.setIfInBounds_toArray, List.set_cons_zero, List.set_cons_succ])
          refine take_in (v := ?_) 60 1 rfl rfl (by kernel_rfl) (by kernel_rfl) (by kernel_rfl) (fun _ _ _ h => h) (by rfl) ?_ (by assumption) ?_
          rotate_left 1
          · (intro w hSw; go_simp; (try with_reducible rfl))
          (try simp only [List.setIfInBounds_toArray, List.set_cons_zero, List.set_cons_succ])
          refine take_in (v := ?_) 61 2 rfl rfl (by kernel_rfl) (by kernel_rfl) (by kernel_rfl) (fun _ _ _ h => h) (by rfl) ?_ (by assumption) ?_
          rotate_left 1
          · (intro w hSw; go_simp; (try with_reducible rfl))
          (try simp only [List.setIfInBounds_toArray, List.set_cons_zero, List.set_cons_succ])
          refine take_in (v := ?_) 62 3 rfl rfl (by kernel_rfl) (by kernel_rfl) (by kernel_rfl) (fun _ _ _ h => h) (by rfl) ?_ (by assumption) ?_
          rotate_left 1
          · (intro w hSw; go_simp; (try with_reducible rfl))
          (try simp only [List.setIfInBounds_toArray, List.set_cons_zero, List.set_cons_succ])
          refine take_in (v := ?_) 63 4 rfl rfl (by kernel_rfl) (by kernel_rfl) (by kernel_rfl) (fun _ _ _ h => h) (by rfl) ?_ (by assumption) ?_
          rotate_left 1
          · (intro w hSw; go_simp; (try with_reducible rfl))
          (try simp only [List.setIfInBounds_toArray, List.set_cons_zero, List.set_cons_succ])
          refine take_in (v := ?_) 64 5 rfl rfl (by kernel_rfl) (by kernel_rfl) (by kernel_rfl) (fun _ _ _ h => h) (by rfl) ?_ (by assumption) ?_
          rotate_left 1
          · (intro w hSw; have z : _ = _ := hSw; go_simp; (try with_reducible rfl))
          (try simp only [List.setIfInBounds_toArray, List.set_cons_zero, List.set_cons_succ])
          refine take_in (v := ?_) 65 6 rfl rfl (by kernel_rfl) (by kernel_rfl) (by kernel_rfl) (fun _ _ _ h => h) (by rfl) ?_ (by assumption) ?_
          rotate_left 1
          · (intro w hSw; go_simp; (try with_reducible rfl))
          (try simp only [List.setIfInBounds_toArray, List.set_cons_zero, List.set_cons_succ])
          refine take_in (v := ?_) 66 7 rfl rfl (by kernel_rfl) (by kernel_rfl) (by kernel_rfl) (fun _ _ _ h => h) (by rfl) ?_ (by assumption) ?_
          rotate_left 1
          · (intro w hSw; go_simp; (try with_reducible rfl))
          (try simp only [List.setIfInBounds_toArray, List.set_cons_zero, List.set_cons_succ])
          refine take_in (v := ?_) 67 8 rfl rfl (by kernel_rfl) (by kernel_rfl) (by kernel_rfl) (fun _ _ _ h => h) (by rfl) ?_ (by assumption) ?_
          rotate_left 1
          · (intro w hSw; go_simp; (try with_reducible rfl))
          (try simp only [List.setIfInBounds_toArray, List.set_cons_zero, List.set_cons_succ])
          refine take_in (v := ?_) 69 10 rfl rfl (by kernel_rfl) (by kernel_rfl) (by kernel_rfl) (fun _ _ _ h => h) (by rfl) ?_ (by assumption) ?_
          rotate_left 1
          · (intro w hSw; go_simp; (try with_reducible rfl))
          (try simp only [List.setIfInBounds_toArray, List.set_cons_zero, List.set_cons_succ])
          refine take_in (v := ?_) 70 11 rfl rfl (by kernel_rfl) (by kernel_rfl) (by kernel_rfl) (fun _ _ _ h => h) (by rfl) ?_ (by assumption) ?_
          rotate_left 1
          · (intro w hSw; go_simp; (try with_reducible rfl))
          (try simp only [List.setIfInBounds_toArray, List.set_cons_zero, List.set_cons_succ])
          refine take_in (v := ?_) 71 12 rfl rfl (by kernel_rfl) (by kernel_rfl) (by kernel_rfl) (fun _ _ _ h => h) (by rfl) ?_ (by assumption) ?_
          rotate_left 1
          · (intro w hSw; go_simp; (try with_reducible rfl))
          (try simp only [List.setIfInBounds_toArray, List.set_cons_zero, List.set_cons_succ])
          refine take_in (v := ?_) 72 13 rfl rfl (by kernel_rfl) (by kernel_rfl) (by kernel_rfl) (fun _ _ _ h => h) (by rfl) ?_ (by assumption) ?_
          rotate_left 1
          · (intro w hSw; have z : _ = _ := hSw; go_simp; (try with_reducible rfl))
          (try simp only [List.setIfInBounds_toArray, List.set_cons_zero, List.set_cons_succ])
          refine take_in (v := ?_) 73 14 rfl rfl (by kernel_rfl) (by kernel_rfl) (by kernel_rfl) (fun _ _ _ h => h) (by rfl) ?_ (by assumption) ?_
          rotate_left 1
          · (intro w hSw; go_simp; (try with_reducible rfl))
          (try simp only [List.setIfInBounds_toArray, List.set_cons_zero, List.set_cons_succ])
          refine take_in (v := ?_) 74 15 rfl rfl (by kernel_rfl) (by kernel_rfl) (by kernel_rfl) (fun _ _ _ h => h) (by rfl) ?_ (by assumption) ?_
          rotate_left 1
          · (intro w hSw; go_simp; (try with_reducible rfl))
          (try simp only [List.setIfInBounds_toArray, List.set_cons_zero, List.set_cons_succ])
          refine take_in (v := ?_) 75 16 rfl rfl (by kernel_rfl) (by kernel_rfl) (by kernel_rfl) (fun _ _ _ h => h) (by rfl) ?_ (by assumption) ?_
          rotate_left 1
          · (intro w hSw; go_simp; (try with_reducible rfl))
          (try simp only [List.setIfInBounds_toArray, List.set_cons_zero, List.set_cons_succ])
          refine take_in (v := ?_) 76 17 rfl rfl (by kernel_rfl) (by kernel_rfl) (by kernel_rfl) (fun _ _ _ h => h) (by rfl) ?_ (by assumption) ?_
          rotate_left 1
          · (intro w hSw; go_simp; (try with_reducible rfl))
          (try simp only [List.setIfInBounds_toArray, List.set_cons_zero, List.set_cons_succ])
          refine take_in (v := ?_) 77 18 rfl rfl (by kernel_rfl) (by kernel_rfl) (by kernel_rfl) (fun _ _ _ h => h) (by rfl) ?_ (by assumption) ?_
          rotate_left 1
          · (intro w hSw; have z : _ = _ := hSw; go_simp; (try with_reducible rfl))
          (try simp only [List.setIfInBounds_toArray, List.set_cons_zero, List.set_cons_succ])
          refine take_in (v := ?_) 78 19 rfl rfl (by kernel_rfl) (by kernel_rfl) (by kernel_rfl) (fun _ _ _ h => h) (by rfl) ?_ (by assumption) ?_
          rotate_left 1
          · (intro w hSw; go_simp; (try with_reducible rfl))
          (try simp only [List.setIfInBounds_toArray, List.set_cons_zero, List.set_cons_succ])
          refine take_in (v := ?_) 79 20 rfl rfl (by kernel_rfl) (by kernel_rfl) (by kernel_rfl) (fun _ _ _ h => h) (by rfl) ?_ (by assumption) ?_
          rotate_left 1
          · (intro w hSw; go_simp; (try with_reducible rfl))
          (try simp only [List.setIfInBounds_toArray, List.set_cons_zero, List.set_cons_succ])
          refine take_in (v := ?_) 81 22 rfl rfl (by kernel_rfl) (by kernel_rfl) (by kernel_rfl) (fun _ _ _ h => h) (by rfl) ?_ (by assumption) ?_
          rotate_left 1
          · (intro w hSw; go_simp; (try with_reducible rfl))
          (try simp only [List.setIfInBounds_toArray, List.set_cons_zero, List.set_cons_succ])
          refine wpAnyH_ready (rs := [9, 21]) (by kernel_rfl) (by simp) ?_
          refine AllReadyH.cons rfl (fun K hK => ?_) (AllReadyH.cons rfl (fun K hK => ?_) AllReadyH.nil)
          · go_simp
            refine hK.out _ _ hHeld (fun hHeld => ?_)
            clear hK K
            (try simp only [List.setIfInBounds_toArray, List.set_cons_zero, List.set_cons_succ])
            refine wpAnyH_ready (rs := [21]) (by kernel_rfl) (by simp) ?_
            refine AllReadyH.cons rfl (fun K hK => ?_) AllReadyH.nil
            go_simp
            refine (at_any A2 n2 k2 b back _ L2.out (by omega) (by exact R2D.out)).mono ?_
            rintro e wE ⟨rfl, hbE⟩
            rw [← Hbv.out]
            have d4E := (hbE.cell (p := ⟨g4, k, none⟩) hlt4D).trans d4D
            have hfzE := (hbE.frozen (p := ⟨g4, k, none⟩) hlt4D).trans hfzD
            have OE := Lib.hid (OCD.out.below hbE)
            have d0E := (hbE.cell (p := ⟨g, 0, none⟩) hgCD).trans d0D
            go_wp2_with fail
            refine hK.out _ _ d0E (fun hHeld => ?_)
            clear hK K
            (try simp only [List.setIfInBounds_toArray, List.set_cons_zero, List.set_cons_succ])
            refine wpAnyH_ready (rs := [23]) (by kernel_rfl) (by simp) ?_
            refine AllReadyH.cons rfl (fun K hK => ?_) AllReadyH.nil
            go_simp
            refine (mul_any _ _ _ bv iv _ rfl rfl).mono ?_
            rintro e wF ⟨rfl, rfl⟩
            rw [← Hm1.out]
            go_wp2_with fail
            refine hK.out _ _ hHeld (fun hHeld => ?_)
            clear hK K
            (try simp only [List.setIfInBounds_toArray, List.set_cons_zero, List.set_cons_succ])
            refine wpAnyH_ready (rs := [24]) (by kernel_rfl) (by simp) ?_
            refine AllReadyH.cons rfl (fun K hK => ?_) AllReadyH.nil
            go_simp
            refine (mul_any _ _ _ x m1 _ rfl rfl).mono ?_
            rintro e wF ⟨rfl, rfl⟩
            rw [← Hm2.out]
            go_wp2_with fail
            refine hK.out _ _ hHeld (fun hHeld => ?_)
            clear hK K
            (try simp only [List.setIfInBounds_toArray, List.set_cons_zero, List.set_cons_succ])
            refine wpAnyH_ready (rs := [25]) (by kernel_rfl) (by simp) ?_
            refine AllReadyH.cons rfl (fun K hK => ?_) AllReadyH.nil
            go_simp
            refine (add_any _ _ _ lk m2 _ rfl rfl).mono ?_
            rintro e wF ⟨rfl, rfl⟩
            rw [← Hm3.out]
            go_wp2_with fail
            refine hK.out _ _ hHeld (fun hHeld => ?_)
            clear hK K
            (try simp only [List.setIfInBounds_toArray, List.set_cons_zero, List.set_cons_succ])
            refine take_in (v := ?_) 85 26 rfl rfl (by kernel_rfl) (by kernel_rfl) (by kernel_rfl) (fun _ _ _ h => h) (by rfl) ?_ (by assumption) ?_
            rotate_left 1
            · (intro w hSw; go_simp; (try with_reducible rfl))
            (try simp only [List.setIfInBounds_toArray, List.set_cons_zero, List.set_cons_succ])
            refine wpAnyH_ready (rs := [27]) (by kernel_rfl) (by simp) ?_
            refine AllReadyH.cons rfl (fun K hK => ?_) AllReadyH.nil
            go_simp
            refine hK.out _ _ ((World.cell?_of_block (a := ⟨g, 0, none⟩) (Below.heap_setCell _ ⟨g4, k, none⟩ _ g hgg)).trans hHeld) (fun hHeld => ?_)
            clear hK K
            (try simp only [List.setIfInBounds_toArray, List.set_cons_zero, List.set_cons_succ])
            refine wpAnyH_done (by kernel_rfl) ?_ _
            go_wp2_with fail
            go_roundw
            case rel => exact ⟨k + 1, by omega, by go_num, by rw [← HSET.out m3 HMA.out.symm]; exact OE.out.store k m3 rfl, (HBWC.out.trans ((show Below B4 wC wE from (below_drew_in hbE).mono hBC))).setCell (p := ⟨g4, k, none⟩) hg4 _⟩
            case measure => simp only [intOf]; omega
          · go_simp
            refine (at_any A2 n2 k2 b back _ L2.out (by omega) (by exact R2D.out)).mono ?_
            rintro e wE ⟨rfl, hbE⟩
            rw [← Hbv.out]
            have d4E := (hbE.cell (p := ⟨g4, k, none⟩) hlt4D).trans d4D
            have hfzE := (hbE.frozen (p := ⟨g4, k, none⟩) hlt4D).trans hfzD
            have OE := Lib.hid (OCD.out.below hbE)
            have d0E := (hbE.cell (p := ⟨g, 0, none⟩) hgCD).trans d0D
            go_wp2_with fail
            refine hK.out _ _ d0E (fun hHeld => ?_)
            clear hK K
            (try simp only [List.setIfInBounds_toArray, List.set_cons_zero, List.set_cons_succ])
            refine wpAnyH_ready (rs := [9, 23]) (by kernel_rfl) (by simp) ?_
            refine AllReadyH.cons rfl (fun K hK => ?_) (AllReadyH.cons rfl (fun K hK => ?_) AllReadyH.nil)
            · go_simp
              refine hK.out _ _ hHeld (fun hHeld => ?_)
              clear hK K
              (try simp only [List.setIfInBounds_toArray, List.set_cons_zero, List.set_cons_succ])
              refine wpAnyH_ready (rs := [23]) (by kernel_rfl) (by simp) ?_
              refine AllReadyH.cons rfl (fun K hK => ?_) AllReadyH.nil
              go_simp
              refine (mul_any _ _ _ bv iv _ rfl rfl).mono ?_
              rintro e wF ⟨rfl, rfl⟩
              rw [← Hm1.out]
              go_wp2_with fail
              refine hK.out _ _ hHeld (fun hHeld => ?_)
              clear hK K
              (try simp only [List.setIfInBounds_toArray, List.set_cons_zero, List.set_cons_succ])
              refine wpAnyH_ready (rs := [24]) (by kernel_rfl) (by simp) ?_
              refine AllReadyH.cons rfl (fun K hK => ?_) AllReadyH.nil
              go_simp
              refine (mul_any _ _ _ x m1 _ rfl rfl).mono ?_
              rintro e wF ⟨rfl, rfl⟩
              rw [← Hm2.out]
              go_wp2_with fail
              refine hK.out _ _ hHeld (fun hHeld => ?_)
              clear hK K
              (try simp only [List.setIfInBounds_toArray, List.set_cons_zero, List.set_cons_succ])
              refine wpAnyH_ready (rs := [25]) (by kernel_rfl) (by simp) ?_
              refine AllReadyH.cons rfl (fun K hK => ?_) AllReadyH.nil
              go_simp
              refine (add_any _ _ _ lk m2 _ rfl rfl).mono ?_
              rintro e wF ⟨rfl, rfl⟩
              rw [← Hm3.out]
              go_wp2_with fail
              refine hK.out _ _ hHeld (fun hHeld => ?_)
              clear hK K
              (try simp only [List.setIfInBounds_toArray, List.set_cons_zero, List.set_cons_succ])
              refine take_in (v := ?_) 85 26 rfl rfl (by kernel_rfl) (by kernel_rfl) (by kernel_rfl) (fun _ _ _ h => h) (by rfl) ?_ (by assumption) ?_
              rotate_left 1
              · (intro w hSw; go_simp; (try with_reducible rfl))
              (try simp only [List.setIfInBounds_toArray, List.set_cons_zero, List.set_cons_succ])
              refine wpAnyH_ready (rs := [27]) (by kernel_rfl) (by simp) ?_
              refine AllReadyH.cons rfl (fun K hK => ?_) AllReadyH.nil
              go_simp
              refine hK.out _ _ ((World.cell?_of_block (a := ⟨g, 0, none⟩) (Below.heap_setCell _ ⟨g4, k, none⟩ _ g hgg)).trans hHeld) (fun hHeld => ?_)
              clear hK K
              (try simp only [List.setIfInBounds_toArray, List.set_cons_zero, List.set_cons_succ])
              refine wpAnyH_done (by kernel_rfl) ?_ _
              go_wp2_with fail
              go_roundw
              case rel => exact ⟨k + 1, by omega, by go_num, by rw [← HSET.out m3 HMA.out.symm]; exact OE.out.store k m3 rfl, (HBWC.out.trans ((show Below B4 wC wE from (below_drew_in hbE).mono hBC))).setCell (p := ⟨g4, k, none⟩) hg4 _⟩
              case measure => simp only [intOf]; omega
            · go_simp
              refine (mul_any _ _ _ bv iv _ rfl rfl).mono ?_
              rintro e wF ⟨rfl, rfl⟩
              rw [← Hm1.out]
              go_wp2_with fail
              refine hK.out _ _ hHeld (fun hHeld => ?_)
              clear hK K
              (try simp only [List.setIfInBounds_toArray, List.set_cons_zero, List.set_cons_succ])
              refine wpAnyH_ready (rs := [9, 24]) (by kernel_rfl) (by simp) ?_
              refine AllReadyH.cons rfl (fun K hK => ?_) (AllReadyH.cons rfl (fun K hK => ?_) AllReadyH.nil)
              · go_simp
                refine hK.out _ _ hHeld (fun hHeld => ?_)
                clear hK K
                (try simp only [List.setIfInBounds_toArray, List.set_cons_zero, List.set_cons_succ])
                refine wpAnyH_ready (rs := [24]) (by kernel_rfl) (by simp) ?_
                refine AllReadyH.cons rfl (fun K hK => ?_) AllReadyH.nil
                go_simp
                refine (mul_any _ _ _ x m1 _ rfl rfl).mono ?_
                rintro e wF ⟨rfl, rfl⟩
                rw [← Hm2.out]
                go_wp2_with fail
                refine hK.out _ _ hHeld (fun hHeld => ?_)
                clear hK K
                (try simp only [List.setIfInBounds_toArray, List.set_cons_zero, List.set_cons_succ])
                refine wpAnyH_ready (rs := [25]) (by kernel_rfl) (by simp) ?_
                refine AllReadyH.cons rfl (fun K hK => ?_) AllReadyH.nil
                go_simp
                refine (add_any _ _ _ lk m2 _ rfl rfl).mono ?_
                rintro e wF ⟨rfl, rfl⟩
                rw [← Hm3.out]
                go_wp2_with fail
                refine hK.out _ _ hHeld (fun hHeld => ?_)
                clear hK K
                (try simp only [List.setIfInBounds_toArray, List.set_cons_zero, List.set_cons_succ])
                refine take_in (v := ?_) 85 26 rfl rfl (by kernel_rfl) (by kernel_rfl) (by kernel_rfl) (fun _ _ _ h => h) (by rfl) ?_ (by assumption) ?_
                rotate_left 1
                · (intro w hSw; go_simp; (try with_reducible rfl))
                (try simp only [List.setIfInBounds_toArray, List.set_cons_zero, List.set_cons_succ])
                refine wpAnyH_ready (rs := [27]) (by kernel_rfl) (by simp) ?_
                refine AllReadyH.cons rfl (fun K hK => ?_) AllReadyH.nil
                go_simp
                refine hK.out _ _ ((World.cell?_of_block (a := ⟨g, 0, none⟩) (Below.heap_setCell _ ⟨g4, k, none⟩ _ g hgg)).trans hHeld) (fun hHeld => ?_)
                clear hK K
                (try simp only [List.setIfInBounds_toArray, List.set_cons_zero, List.set_cons_succ])
                refine wpAnyH_done (by kernel_rfl) ?_ _
                go_wp2_with fail
                go_roundw
                case rel => exact ⟨k + 1, by omega, by go_num, by rw [← HSET.out m3 HMA.out.symm]; exact OE.out.store k m3 rfl, (HBWC.out.trans ((show Below B4 wC wE from (below_drew_in hbE).mono hBC))).setCell (p := ⟨g4, k, none⟩) hg4 _⟩
                case measure => simp only [intOf]; omega
              · go_simp
                refine (mul_any _ _ _ x m1 _ rfl rfl).mono ?_
                rintro e wF ⟨rfl, rfl⟩
                rw [← Hm2.out]
                go_wp2_with fail
                refine hK.out _ _ hHeld (fun hHeld => ?_)
                clear hK K
                (try simp only [List.setIfInBounds_toArray, List.set_cons_zero, List.set_cons_succ])
                refine wpAnyH_ready (rs := [9]) (by kernel_rfl) (by simp) ?_
                refine AllReadyH.cons rfl (fun K hK => ?_) AllReadyH.nil
                go_simp
                refine hK.out _ _ hHeld (fun hHeld => ?_)
                clear hK K
                (try simp only [List.setIfInBounds_toArray, List.set_cons_zero, List.set_cons_succ])
                refine wpAnyH_ready (rs := [25]) (by kernel_rfl) (by simp) ?_
                refine AllReadyH.cons rfl (fun K hK => ?_) AllReadyH.nil
                go_simp
                refine (add_any _ _ _ lk m2 _ rfl rfl).mono ?_
                rintro e wF ⟨rfl, rfl⟩
                rw [← Hm3.out]
                go_wp2_with fail
                refine hK.out _ _ hHeld (fun hHeld => ?_)
                clear hK K
                (try simp only [List.setIfInBounds_toArray, List.set_cons_zero, List.set_cons_succ])
                refine take_in (v := ?_) 85 26 rfl rfl (by kernel_rfl) (by kernel_rfl) (by kernel_rfl) (fun _ _ _ h => h) (by rfl) ?_ (by assumption) ?_
                rotate_left 1
                · (intro w hSw; go_simp; (try with_reducible rfl))
                (try simp only [List.setIfInBounds_toArray, List.set_cons_zero, List.set_cons_succ])
                refine wpAnyH_ready (rs := [27]) (by kernel_rfl) (by simp) ?_
                refine AllReadyH.cons rfl (fun K hK => ?_) AllReadyH.nil
                go_simp
                refine hK.out _ _ ((World.cell?_of_block (a := ⟨g, 0, none⟩) (Below.heap_setCell _ ⟨g4, k, none⟩ _ g hgg)).trans hHeld) (fun hHeld => ?_)
                clear hK K
                (try simp only [List.setIfInBounds_toArray, List.set_cons_zero, List.set_cons_succ])
                refine wpAnyH_done (by kernel_rfl) ?_ _
                go_wp2_with fail
                go_roundw
                case rel => exact ⟨k + 1, by omega, by go_num, by rw [← HSET.out m3 HMA.out.symm]; exact OE.out.store k m3 rfl, (HBWC.out.trans ((show Below B4 wC wE from (below_drew_in hbE).mono hBC))).setCell (p := ⟨g4, k, none⟩) hg4 _⟩
                case measure => simp only [intOf]; omega
      · have t1 := fne0' hz
        have hsk : mendAt nl l loc b k = l.getD k 0 := by
          rw [mendAt, HX.out, HBK.out, HLV.out, if_neg (fun h => hz h.1)]
        go_wp2_with fail
        go_roundw
        case rel => exact ⟨k + 1, by omega, by go_num, by rw [← HSKIP.out hsk]; exact OA.out, HBW.out⟩
        case measure => simp only [intOf]; omega
    · obtain rfl : k = nl := by omega
      rw [mendTo_done] at HO
      go_wp2
      go_ret
      have := HO.out.len
      exact ⟨A4, k4, t, b, rfl, by rw [HLO.out]; exact HO.out.less hsz3, HB3.out.trans (HB.out.mono hsz3), a, s, HE.out, HBL.out⟩
end Go.Proofs.Ythejbmjleohlfaa
