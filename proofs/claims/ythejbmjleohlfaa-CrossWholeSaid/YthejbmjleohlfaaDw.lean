/- The walks of decode: points, sums, fronts. -/
import Derived.Test.YthejbmjleohlfaaSs2
import Derived.Test.YthejbmjleohlfaaPx
import Derived.Test.YthejbmjleohlfaaPd
import Derived.Test.YthejbmjleohlfaaPa
import Derived.Test.YthejbmjleohlfaaRsr
import Derived.Test.YthejbmjleohlfaaKe
import Derived.Test.YthejbmjleohlfaaTk
import Derived.Shelf.SlicesE.Reverse
namespace Go.Proofs.Ythejbmjleohlfaa
open Go.RowKit Go.Shelf

/-- A word that is made right, as it lies in block g. -/
structure WordAt (w : World) (g : Nat) (pf : Option Addr) (Al : Option Addr) (nl cl : Nat) (r : Nat) (Ag : Option Addr) (ng cg : Nat) : Prop where
  f : w.cell? ⟨g, 0, none⟩ = some (.pointer pf)
  l : w.cell? ⟨g, 1, none⟩ = some (.slice Al nl cl)
  r : w.cell? ⟨g, 2, none⟩ = some (.int .i64 r)
  gone : w.cell? ⟨g, 3, none⟩ = some (.slice Ag ng cg)
theorem WordAt.below {w w' : World} {g B : Nat} {pf Al Ag : Option Addr} {nl cl r ng cg : Nat} (h : WordAt w g pf Al nl cl r Ag ng cg) (hb : Below B w w') (hg : g < B) : WordAt w' g pf Al nl cl r Ag ng cg :=
  ⟨(hb.cell (p := ⟨g, 0, none⟩) hg).trans h.f, (hb.cell (p := ⟨g, 1, none⟩) hg).trans h.l, (hb.cell (p := ⟨g, 2, none⟩) hg).trans h.r, (hb.cell (p := ⟨g, 3, none⟩) hg).trans h.gone⟩

set_option maxRecDepth 100000 in
set_option maxHeartbeats 1000000 in
theorem point_any (g : Nat) (pf Al Ag : Option Addr) (nl cl r ng cg i : Nat) (w : World) (h : WordAt w g pf Al nl cl r Ag ng cg) (hi : i < nl) (hn : nl ≤ 255) :
    Calls Try.prog 55 #[.pointer (some ⟨g, 0, none⟩), .int .i64 i] w fun e w' => e = .returned (.int .u16 (F.px (nl - 1 - i)).nat) ∧ ∃ q, w' = w.drewN q := by
  have hf := h.f
  have hl := h.l
  obtain ⟨k, hk⟩ : ∃ k, k = nl - 1 - i := ⟨_, rfl⟩
  have q1 : IntKind.i64.wrap ((nl : Int) - 1) = (nl : Int) - 1 := IntWalk.i64_in _ ⟨by omega, by omega⟩
  have q2 : IntKind.i64.wrap ((nl : Int) - 1 - (i : Int)) = (k : Int) := by rw [show (nl : Int) - 1 - (i : Int) = (k : Int) by omega]; exact IntWalk.i64_in _ ⟨by omega, by omega⟩
  rw [← hk]
  clear h hk
  go_enter Try.func55, Try.ntmps55
  go_wp2
  go_quiet ((go_at_call 47; exact qs (exp_k _ k _)))
  go_wp2
  go_ret
  exact ⟨rfl, _, rfl⟩

theorem sumsL_length (l : List F) (r : Nat) : (sumsL l r).length = r := tab_length _ _
theorem sumsL_reverse (l : List F) (r : Nat) : tab r (fun j => pv l.reverse (F.px j)) = sumsL l r := tab_congr fun j _ => by rw [pv_hv, List.reverse_reverse]
theorem tab_push (f : Nat → F) (i : Nat) : tab i f ++ [f i] = tab (i + 1) f := by simp [tab, List.range_succ]

set_option maxRecDepth 100000 in
theorem reverse_any (A : Option Addr) (c B : Nat) (n : Nat) (l : List F) (w : World) (h : Own w B A n c l) :
    Calls Try.prog 74 #[.slice A n c] w fun e w' => (∃ v, e = .returned v) ∧ Own w' B A n c l.reverse ∧ Below B w w' := by
  have hl := h.len
  by_cases hn : n = 0
  · subst hn
    obtain rfl : l = [] := List.eq_nil_of_length_eq_zero hl
    refine (AnyE.slices_Reverse_empty Try.lReverse A c w).mono ?_
    rintro e w' ⟨rfl, rfl⟩
    exact ⟨⟨_, rfl⟩, h, Below.refl _ _⟩
  · obtain ⟨g, rfl, hB, hlt⟩ := h.form (by omega)
    obtain ⟨g', cap, hv, _, _, h1, h2, _, hH⟩ := Lib.holds_of_ownsRow h.2 (fun e => by injection e with e; cases e)
    injection hv with e1 _ e3
    injection e1 with e1; injection e1 with e1
    subst e1; subst e3; subst hl
    refine (AnyE.slices_Reverse Try.lReverse fv (fun _ => rfl) g 0 c l w hH (by unfold maxLen at h2; omega)).mono ?_
    rintro e w' ⟨rfl, q, rfl⟩
    refine ⟨⟨_, rfl⟩, ⟨by simp, ?_⟩, Lib.below_putRow (Below.refl B w) hB⟩
    have := Lib.ownsRow_putRow (q := q) (k := l.length) (ys := l.reverse) h.2 (by simp) (Nat.le_refl _)
    rwa [List.take_of_length_le (by simp)] at this
set_option maxRecDepth 100000 in
set_option maxHeartbeats 4000000 in
theorem dsums_any (g : Nat) (pf Al Ag : Option Addr) (nl cl r ng cg : Nat) (l : List F) (w : World) (h : WordAt w g pf Al nl cl r Ag ng cg) (hg : g < w.heap.size) (hl : l.length = nl) (hrd : Rd w w.heap.size Al l) (hn : nl ≤ 255) (hr : r ≤ 255) :
    Calls Try.prog 65 #[.pointer (some ⟨g, 0, none⟩)] w (RetPol w (sumsL l r)) := by
  have HL := Lib.hid hl
  have HRD := Lib.hid hrd
  have HW := Lib.hid h
  have hf := h.f
  have hl1 := h.l
  have hr1 := h.r
  clear hl hrd h
  go_enter Try.func65, Try.ntmps65
  go_wp2_with fail
  refine (clone_any Al nl cl l _ HL.out HRD.out (by omega)).mono ?_
  rintro e w1 ⟨A1, c1, rfl, hown, hb⟩
  rw [HL.out] at hown ⊢
  go_wp2_with fail
  refine (reverse_any A1 c1 w.heap.size nl l _ hown).mono ?_
  rintro e w2 ⟨⟨v, rfl⟩, hown2, hb2⟩
  have hB := hb.trans hb2
  have HRL := Lib.hid (show l.reverse.length = nl by rw [List.length_reverse, HL.out])
  have HS := Lib.hid (show tab r (fun j => pv l.reverse (F.px j)) = sumsL l r from sumsL_reverse l r)
  clear hb hb2 hown HL HRD
  generalize l.reverse = lr at hown2 HRL HS
  have hr2 := (hB.cell (p := ⟨g, 2, none⟩) hg).trans hr1
  clear hl1 hr1
  have hf2 := (hB.cell (p := ⟨g, 0, none⟩) hg).trans hf
  go_wp2_with fail
  go_loopw [4, 17] (fun v j wr => ∃ (k : Nat) (A : Option Addr) (c : Nat), k ≤ r ∧ j = .int .i64 k ∧ v = .slice A k c ∧ Own wr w2.heap.size A k c (tab k fun j => pv lr (F.px j)) ∧ Below w2.heap.size w2 wr) (fun _ j _ => r - (intOf j).toNat)
  case atStart => exact ⟨0, none, 0, by omega, rfl, rfl, Own.nil _ _, Below.refl _ _⟩
  case round =>
    obtain ⟨k, A, c, hk, rfl, rfl, hown, hbel⟩ := hrel
    have HO := Lib.hid hown
    have HB := Lib.hid hbel
    clear hown
    by_cases hkr : k < r
    · have hf3 := (hbel.cell (p := ⟨g, 0, none⟩) (Nat.lt_of_lt_of_le hg hB.size)).trans hf2
      have HS2 := Lib.hid (tab_push (fun j => pv lr (F.px j)) k)
      have HR := Lib.hid (hown2.rd.below hbel)
      generalize tab k (fun j => pv lr (F.px j)) = cur at HO HS2
      go_wp2_with fail
      refine (exp_k _ k _).mono ?_
      rintro e w4 ⟨rfl, rfl⟩
      go_wp2_with fail
      refine (at_any A1 nl c1 lr (F.px k) _ HRL.out (by omega) (by exact HR.out.more HB.out.size)).mono ?_
      rintro e w5 ⟨rfl, hb5⟩
      replace HO := Lib.hid (HO.out.below hb5)
      replace HB := Lib.hid (bstep HB.out (Nat.le_refl _) hb5)
      clear hb5 hbel HR hf3
      generalize pv lr (F.px k) = y at HS2 ⊢
      go_wp2_with (at_builtin; refine wpList_push _ rfl _ _ rfl w2.heap.size _ _ _ _ rfl (HO.out.alloc _) w5.heap.size 1 y _ rfl rfl (by go_cell) (by omega) (by have := HB.out.size; simp; omega) ?_; intro A' c' w6 hown1 hb1 hg1)
      go_roundw
      case rel => exact ⟨k + 1, A', c', by omega, by go_num, rfl, by rw [← HS2.out]; exact hown1, (HB.out.alloc HB.out.size _).trans hb1⟩
      case measure => simp only [intOf]; omega
    · obtain rfl : k = r := by omega
      rw [HS.out] at HO
      go_wp2
      go_ret
      have e := HO.out.len
      exact ⟨A, c, by rw [e]; rfl, by rw [e]; exact HO.out.less hB.size, bstep hB (Nat.le_refl _) HB.out⟩

set_option maxRecDepth 100000 in
theorem front_any (A : Option Addr) (n c k : Nat) (l : List F) (w : World) (hl : l.length = n) (hrd : Rd w w.heap.size A l) (hn : n ≤ 60000) (hc : n ≤ c) (_hm : c ≤ maxLen) (hk : k ≤ 60000) :
    Calls Try.prog 64 #[.slice A n c, .int .i64 k] w (RetPol w (shortL (l.take k))) := by
  have HT := Lib.hid (show (l.take k).length = min k n by rw [List.length_take, hl])
  have HR := Lib.hid (hrd.take k)
  generalize l.take k = lt at HT HR
  clear hl hrd
  go_enter Try.func64, Try.ntmps64
  go_wp2_with fail
  rw [show (min (k : Int) (n : Int)).toNat = min k n by omega]
  refine (short_any A (min k n) c lt _ HT.out HR.out (by omega) (by omega)).mono ?_
  rintro e w' ⟨A', c', rfl, hown', hb'⟩
  go_wp2_with fail
  go_ret
  exact ⟨A', c', rfl, hown', hb'⟩

/-- A slice of places. -/
def RdG (w : World) (B : Nat) (A : Option Addr) (gs : List Nat) : Prop :=
  0 < gs.length → ∃ b off, A = some ⟨b, off, none⟩ ∧ b < B ∧ ∀ j, j < gs.length → w.cell? ⟨b, off + j, none⟩ = some (.int .i64 (gs.getD j 0 : Nat))
theorem RdG.below {w w' : World} {B : Nat} {A : Option Addr} {l : List Nat} (h : RdG w B A l) (hb : Below B w w') : RdG w' B A l := fun h0 => by
  obtain ⟨b, off, hA, hlt, hc⟩ := h h0
  exact ⟨b, off, hA, hlt, fun j hj => (hb.cell (p := ⟨b, off + j, none⟩) hlt).trans (hc j hj)⟩
theorem RdG.more {w : World} {B B' : Nat} {A : Option Addr} {l : List Nat} (h : RdG w B A l) (hB : B ≤ B') : RdG w B' A l := fun h0 => by
  obtain ⟨b, off, hA, hlt, hc⟩ := h h0
  exact ⟨b, off, hA, by omega, hc⟩
theorem RdI.rdG {w : World} {B : Nat} {A : Option Addr} {gs : List Nat} (h : RdI w B A (gs.map fun g : Nat => (g : Int))) : RdG w B A gs := fun h0 => by
  obtain ⟨b, off, hA, hlt, hc⟩ := h (by simpa using h0)
  refine ⟨b, off, hA, hlt, fun j hj => ?_⟩
  rw [hc j (by simpa using hj), List.getElem?_map, List.getD, List.getElem?_eq_getElem hj]
  rfl

/-- A slice's length. -/
def slen : Value → Nat
  | .slice _ n _ => n
  | _ => 0
/-- Handed back: a locator and a value. -/
def RetLoc (w : World) (r g : Nat) (gone X : List F) (e : Ending) (w' : World) : Prop := ∃ (A1 A2 : Option Addr) (c1 c2 : Nat) (t b : List F),
  e = .returned (.tuple #[.slice A1 (mulL t gone).length c1, .slice A2 b.length c2]) ∧ Own w' w.heap.size A1 (mulL t gone).length c1 (mulL t gone) ∧ Own w' w.heap.size A2 b.length c2 b ∧ Below w.heap.size w w' ∧ Located r g X t b
set_option maxRecDepth 100000 in
set_option maxHeartbeats 4000000 in
theorem locate_any (g : Nat) (pf Al Ag : Option Addr) (nl cl r ng cg : Nat) (l : List F) (gs : List Nat) (w : World) (h : WordAt w g pf Al nl cl r Ag ng cg) (hg : g < w.heap.size) (hl : l.length = nl) (hrd : Rd w w.heap.size Al l) (hn : nl ≤ 255) (hr : r ≤ 255)
    (hgs : gs.length = ng) (hgr : ng ≤ r) (hrg : RdG w w.heap.size Ag gs) (hlt : ∀ j, j < ng → gs.getD j 0 < nl) :
    Calls Try.prog 53 #[.pointer (some ⟨g, 0, none⟩)] w (RetLoc w r ng (goneL nl gs) (shortL ((mulL (goneL nl gs) (sumsL l r)).take r))) := by
  have HL := Lib.hid hl
  have HRD := Lib.hid hrd
  have HGS := Lib.hid hgs
  have HRG := Lib.hid hrg
  have HLT := Lib.hid hlt
  have HW := Lib.hid h
  have c3 := h.gone
  clear hl hrd h hgs hrg hlt
  go_enter Try.func53, Try.ntmps53
  go_wp2_with fail
  go_step3
  go_wp2_with fail
  have O1 := Own.lit w w.heap.size [1] #[.int .u16 1] (Nat.le_refl _) (by decide) rfl
  have B1 := balloc w (.cells #[.int .u16 1] 71)
  have c3 := (B1.cell (p := ⟨g, 3, none⟩) hg).trans c3
  obtain ⟨w1, hw1⟩ : ∃ w1, w1 = w.alloc (.cells #[.int .u16 1] 71) := ⟨_, rfl⟩
  rw [← hw1] at O1 B1 c3
  simp only [← hw1]
  go_wp2_with fail
  go_loopw [4, 20] (fun v j wr => ∃ (k m : Nat) (A : Option Addr) (c : Nat), k ≤ ng ∧ j = .int .i64 k ∧ v = .slice A m c ∧ Own wr w.heap.size A m c (goneL nl (gs.take k)) ∧ Below w.heap.size w wr) (fun _ j _ => ng - (intOf j).toNat)
  case atStart => exact ⟨0, 1, _, _, by omega, rfl, rfl, O1, B1⟩
  case round =>
    obtain ⟨k, m, A, c, hk, rfl, rfl, hown, hbel⟩ := hrel
    have HO := Lib.hid hown
    have HB := Lib.hid hbel
    clear hown
    by_cases hkr : k < ng
    · obtain ⟨b, off, rfl, hbl, hc⟩ := (HRG.out.below hbel) (by rw [HGS.out]; omega)
      have cc := hc k (by rw [HGS.out]; exact hkr)
      have hx := HLT.out k hkr
      have HX := Lib.hid (goneL_take nl (gs := gs) (k := k) (by rw [HGS.out]; exact hkr))
      have hlen := goneL_length nl (gs.take k)
      rw [List.length_take] at hlen
      generalize gs.getD k 0 = i at cc hx HX
      generalize goneL nl (gs.take k) = o at HO HX hlen
      have hom := HO.out.len
      have HW2 := HW.out.below hbel hg
      clear hc
      go_wp2_with fail
      refine (point_any g pf Al _ nl cl r ng cg i _ HW2 hx hn).mono ?_
      rintro e w3 ⟨rfl, q, rfl⟩
      generalize F.px (nl - 1 - i) = y at HX ⊢
      go_wp2_with fail
      refine (pmul_any A _ m 2 c _ o [1, y] _ HO.out.len rfl (by exact ((HO.out.drewN q).below (balloc _ _)).rd) (by exact (Own.lit (wr.drewN q) (wr.drewN q).heap.size [1, y] _ (Nat.le_refl _) (by simp) rfl).rd) (by omega)).mono ?_
      rintro e w' ⟨A', c', rfl, hown', hb'⟩
      go_wp2_with fail
      go_roundw
      case rel => exact ⟨k + 1, _, A', c', by omega, by go_num, rfl, by rw [HX.out]; exact Own.less hown' (by have := HB.out.size; simp; omega), bstep (below_drewN HB.out q) (Nat.le_refl _) (bstep (balloc (wr.drewN q) _) (Nat.le_refl _) hb')⟩
      case measure => simp only [intOf]; omega
    · obtain rfl : k = ng := by omega
      have e : gs.take k = gs := List.take_of_length_le (by rw [HGS.out]; omega)
      rw [e] at HO
      have HW2 := HW.out.below hbel hg
      have r2 := HW2.r
      go_wp2_with (first
        | (at_make; refine wpList_mk _ rfl _ _ rfl wr.heap.size _ _ r rfl rfl (by omega) (by omega) (by omega) (Nat.le_refl _) ?_; intro w2 hown2 hg2)
        | (at_builtin; refine wpList_push _ rfl _ _ rfl wr.heap.size _ _ _ _ rfl (hown2.alloc _) w2.heap.size 1 (1 : F) 1 rfl rfl (by go_cell) (by omega) (by have := (World.grownBy.size hg2); simp; omega) ?_; intro A5 c5 w4 hown4 hb4 hg4))
      have hb24 : Below wr.heap.size wr w4 := (((Below.refl wr.heap.size wr).grown hg2 (Nat.le_refl _) (by simp)).alloc (by have := (World.grownBy.size hg2); omega) _).trans hb4
      have hsz := hb24.size
      have hszw := hbel.size
      have hg4' : g < w4.heap.size := by omega
      have r4 := (hb24.cell (p := ⟨g, 2, none⟩) (Nat.lt_of_lt_of_le hg hszw)).trans r2
      have HW4 := Lib.hid (HW2.below hb24 (Nat.lt_of_lt_of_le hg hszw))
      have RD4 := Lib.hid ((HRD.out.below (hbel.trans (hb24.mono hszw))).more (Nat.le_trans hszw hsz))
      have HO4 := Lib.hid (HO.out.below hb24)
      have OA := Lib.hid hown4
      have HB4 := Lib.hid (hbel.trans (hb24.mono hszw))
      have hgl := goneL_length nl gs
      rw [HO.out.len, HGS.out] at hgl
      clear hown4 hb24 hg2 hg4 hown2 hb4 HW2 hbel r2 HB HO B1 O1 hw1 c3
      refine wp_region_held_drew (S := fun w' => Below w4.heap.size w4 w') (by kernel_rfl) (Below.refl _ _).drew (fun hHeld => ?_)
      refine take_in (v := ?_) 38 0 rfl rfl (by kernel_rfl) (by kernel_rfl) (by kernel_rfl) (fun _ _ _ h => h) (by rfl) ?_ (by assumption) ?_
      rotate_left 1
      · (intro w hSw; go_simp; (try with_reducible rfl))
      (try simp only [List.setIfInBounds_toArray, List.set_cons_zero, List.set_cons_succ])
      refine take_in (v := ?_) 39 1 rfl rfl (by kernel_rfl) (by kernel_rfl) (by kernel_rfl) (fun _ _ _ h => h) (by rfl) ?_ (by assumption) ?_
      rotate_left 1
      · (intro w hSw; go_simp; (try with_reducible rfl))
      (try simp only [List.setIfInBounds_toArray, List.set_cons_zero, List.set_cons_succ])
      refine take_in (v := ?_) 42 4 rfl rfl (by kernel_rfl) (by kernel_rfl) (by kernel_rfl) (fun _ _ _ h => h) (by rfl) ?_ (by assumption) ?_
      rotate_left 1
      · (intro w hSw; go_simp; (try with_reducible rfl))
      (try simp only [List.setIfInBounds_toArray, List.set_cons_zero, List.set_cons_succ])
      refine take_in (v := ?_) 43 5 rfl rfl (by kernel_rfl) (by kernel_rfl) (by kernel_rfl) (fun _ _ _ h => h) (by rfl) ?_ (by assumption) ?_
      rotate_left 1
      · (intro w hSw; go_simp; (try with_reducible rfl))
      (try simp only [List.setIfInBounds_toArray, List.set_cons_zero, List.set_cons_succ])
      refine take_in (v := ?_) 44 6 rfl rfl (by kernel_rfl) (by kernel_rfl) (by kernel_rfl) (fun _ _ _ h => h) (by rfl) ?_ (by assumption) ?_
      rotate_left 1
      · (intro w hSw; go_simp; (try with_reducible rfl))
      (try simp only [List.setIfInBounds_toArray, List.set_cons_zero, List.set_cons_succ])
      refine take_in (v := ?_) 45 7 rfl rfl (by kernel_rfl) (by kernel_rfl) (by kernel_rfl) (fun _ _ _ h => h) (by rfl) ?_ (by assumption) ?_
      rotate_left 1
      · (intro w hSw; have z := (Below.cell hSw (p := ⟨g, 2, none⟩) hg4').trans r4; go_simp; (try with_reducible rfl))
      (try simp only [List.setIfInBounds_toArray, List.set_cons_zero, List.set_cons_succ])
      refine wpAnyH_ready (rs := [2]) (by kernel_rfl) (by simp) ?_
      refine AllReadyH.cons rfl (fun K hK => ?_) AllReadyH.nil
      go_simp
      refine (dsums_any g pf Al Ag nl cl r k cg l _ (HW4.out.below hHeld hg4') (Nat.lt_of_lt_of_le hg4' hHeld.size) HL.out (by exact (RD4.out.below hHeld).more hHeld.size) hn hr).mono ?_
      rintro e wC ⟨As, cs, rfl, hos, hbs⟩
      rw [sumsL_length] at hos ⊢
      have OS := Lib.hid hos
      clear hos

      go_wp2_with fail
      refine hK.out _ _ (bstep hHeld (Nat.le_refl _) (by assumption)) (fun hHeld => ?_)
      clear hK K
      (try simp only [List.setIfInBounds_toArray, List.set_cons_zero, List.set_cons_succ])
      refine wpAnyH_ready (rs := [3]) (by kernel_rfl) (by simp) ?_
      refine AllReadyH.cons rfl (fun K hK => ?_) AllReadyH.nil
      go_simp
      refine (pmul_any A As m r c cs (goneL nl gs) (sumsL l r) _ HO4.out.len (sumsL_length l r) (by exact (HO4.out.below hHeld).rd) (by exact OS.out.rd) (by omega)).mono ?_
      rintro e wC ⟨Ap, cp, rfl, hop, hbp⟩
      obtain ⟨mp, hmp⟩ : ∃ n, n = (mulL (goneL nl gs) (sumsL l r)).length := ⟨_, rfl⟩
      have hmpl := mulL_length (goneL nl gs) (sumsL l r)
      rw [HO4.out.len, sumsL_length] at hmpl
      rw [← hmp] at hop hmpl ⊢
      have OP := Lib.hid hop
      have capp := hop.cap
      clear hop hmp OS

      go_wp2_with fail
      refine hK.out _ _ (bstep hHeld (Nat.le_refl _) (by assumption)) (fun hHeld => ?_)
      clear hK K
      (try simp only [List.setIfInBounds_toArray, List.set_cons_zero, List.set_cons_succ])
      refine wpAnyH_ready (rs := [8]) (by kernel_rfl) (by simp) ?_
      refine AllReadyH.cons rfl (fun K hK => ?_) AllReadyH.nil
      go_simp
      refine (front_any Ap mp cp r (mulL (goneL nl gs) (sumsL l r)) _ OP.out.len (by exact OP.out.rd) (by omega) capp.1 capp.2 (by omega)).mono ?_
      rintro e wC ⟨Ab, cb, rfl, hob, hbb⟩
      have hs3 := hHeld.size
      go_wp2_with fail
      refine hK.out _ _ (bstep hHeld (Nat.le_refl _) (by assumption)) (fun hHeld => ?_)
      clear hK K
      (try simp only [List.setIfInBounds_toArray, List.set_cons_zero, List.set_cons_succ])
      refine take_in (v := ?_) 8 9 rfl rfl (by kernel_rfl) (by kernel_rfl) (by kernel_rfl) (fun _ _ _ h => h) (by rfl) ?_ (by assumption) ?_
      rotate_left 1
      · (intro w hSw; go_simp; (try with_reducible rfl))
      (try simp only [List.setIfInBounds_toArray, List.set_cons_zero, List.set_cons_succ])
      refine wpAnyH_done (by kernel_rfl) ?_ _
      go_wp2_with fail
      have hXl := shortL_length ((mulL (goneL nl gs) (sumsL l r)).take r)
      rw [List.length_take] at hXl
      have hXs := shortL_short ((mulL (goneL nl gs) (sumsL l r)).take r)
      generalize hXe : shortL ((mulL (goneL nl gs) (sumsL l r)).take r) = X at hob hXl hXs ⊢
      have HXE := Lib.hid hXe
      clear hXe
      have HE := Lib.hid (euc_start (g := k) hXs (show X.length ≤ r by omega) hgr)
      have hwC : Below w.heap.size w wC := HB4.out.trans ((hHeld.mono (by have := HB4.out.size; omega)))
      have hszC := hHeld.size
      have hszC' := hwC.size
      have OA6 := Lib.hid ((OA.out.below hHeld).alloc (.cells #[.int .u16 1] 71) |>.less hszw)
      have OB6 := Lib.hid (hob.alloc (.cells #[.int .u16 1] 71) |>.less (show w.heap.size ≤ _ by omega))
      have OT6 := Lib.hid (Own.lit wC w.heap.size [1] #[.int .u16 1] hszC' (by decide) rfl)
      have HW6 := Lib.hid (HW.out.below (hwC.alloc hszC' (.cells #[.int .u16 1] 71)) hg)
      have OG6 := Lib.hid ((HO4.out.below hHeld).alloc (.cells #[.int .u16 1] 71))
      have HB6 := Lib.hid (hwC.alloc hszC' (.cells #[.int .u16 1] 71))
      obtain ⟨wq, hwq⟩ : ∃ wq, wq = wC.alloc (.cells #[.int .u16 1] 71) := ⟨_, rfl⟩
      rw [← hwq] at OA6 OB6 OT6 HW6 OG6 HB6
      simp only [← hwq]
      have hXr : X.length ≤ r := by omega
      obtain ⟨nX, hnX⟩ : ∃ n, n = X.length := ⟨_, rfl⟩
      rw [← hnX] at OB6 hXr ⊢
      generalize List.replicate r (0 : F) ++ [1] = a0 at OA6 HE
      generalize hb0 : X = b0 at OB6
      have HE2 := Lib.hid (show Euc r k X a0 b0 [] [1] by rw [← hb0]; exact HE.out)
      clear hwq hob hbb hHeld HO4 OA OP capp HB4 HW4 RD4 r4 HE hb0 hnX hXl hXs hs3 hwC hszC hszC' c3 hmpl
      obtain ⟨wo, rfl⟩ : ∃ wo, wo = wr := ⟨_, rfl⟩
      go_step3
      go_wp2_with fail
      have hcC : 1 ≤ 100 := by omega
      go_loopw [7, 8, 9, 10] (fun va vb vs vt wr => ∃ (Aa Ab As At : Option Addr) (na nb ns nt ca cb cs ct : Nat) (a b s t : List F), va = .slice Aa na ca ∧ vb = .slice Ab nb cb ∧ vs = .slice As ns cs ∧ vt = .slice At nt ct ∧
        Own wr w.heap.size Aa na ca a ∧ Own wr w.heap.size Ab nb cb b ∧ Own wr w.heap.size As ns cs s ∧ Own wr w.heap.size At nt ct t ∧ Below wq.heap.size wq wr ∧ Hid (Euc r k X a b s t)) (fun _ vb _ _ _ => slen vb)
      case atStart => exact ⟨_, _, _, _, _, _, _, _, _, _, _, _, _, _, _, _, rfl, rfl, rfl, rfl, OA6.out, OB6.out, Own.nil _ _, OT6.out, Below.refl _ _, HE2⟩
      case round =>
        obtain ⟨Aa, Ab, As, At, na, nb, ns, nt, ca, cb, cs, ct, a, b, s, t, rfl, rfl, rfl, rfl, oa, ob, os, ot, hbel, HE⟩ := hrel
        have EA := Lib.hid oa
        have EB := Lib.hid ob
        have ES := Lib.hid os
        have ET := Lib.hid ot
        have HB := Lib.hid hbel
        have hgq : g < wq.heap.size := Nat.lt_of_lt_of_le hg HB6.out.size
        have HW7 := HW6.out.below hbel hgq
        have d2 := HW7.r
        have d3 := HW7.gone
        have hnb : nb ≤ r := by have h1 := HE.out.less; have h2 := HE.out.top; rw [ob.len] at h1; omega
        have hna : na ≤ r + 1 := by have h2 := HE.out.top; rw [oa.len] at h2; exact h2
        clear oa ob os ot OA6 OB6 OT6 HE2 hbel
        have q1 : IntKind.i64.wrap ((nb : Int) - 1) = (nb : Int) - 1 := IntWalk.i64_in _ ⟨by omega, by omega⟩
        have q2 : IntKind.i64.wrap (2 * ((nb : Int) - 1)) = 2 * ((nb : Int) - 1) := IntWalk.i64_in _ ⟨by omega, by omega⟩
        have q3 : IntKind.i64.wrap ((r : Int) + (k : Int)) = (r : Int) + (k : Int) := IntWalk.i64_in _ ⟨by omega, by omega⟩
        by_cases hlt : 2 * ((nb : Int) - 1) < (r : Int) + (k : Int)
        · go_wp2_with fail
          go_region
          all_goals (
            go_wp2_with fail
            have hbm := EB.out.len
            have htl := HE.out.tl
            rw [ET.out.len, EA.out.len] at htl
            refine (pmul_any At A nt m ct c t (goneL nl gs) _ ET.out.len OG6.out.len (by exact ET.out.drew.rd) (by exact (OG6.out.below HB.out).drew.rd) (by omega)).mono ?_
            rintro e w' ⟨A', c', rfl, hown', hb'⟩
            go_wp2_with fail
            go_ret2
            subst hbm
            exact ⟨A', Ab, c', cb, t, b, rfl, Own.less hown' (by have := HB.out.size; have := HB6.out.size; simp; omega), (EB.out.drew).below hb', bstep (HB6.out.trans (HB.out.mono HB6.out.size)).drew (Nat.le_refl _) hb', a, s, by rw [HXE.out]; exact HE.out, by omega⟩)
        · have hlt2 : r + k + 2 ≤ 2 * nb := by omega
          have hsb := shortL_id HE.out.sb
          have HE3 := Lib.hid (fun q e => euc_step (q := q) (e := e) HE.out (by rw [EB.out.len]; exact hlt2) hr)
          have htl := HE.out.tl
          have hsl := HE.out.sl
          rw [ET.out.len, EA.out.len] at htl
          rw [ES.out.len, EA.out.len] at hsl
          have capa := EA.out.cap.1
          have capb := EB.out.cap.1
          go_wp2_with fail
          go_region
          all_goals (
            go_wp2_with fail
            refine (div_ok Aa Ab na nb ca cb a b _ EA.out.len EB.out.len (by exact EA.out.drew.rd) (by exact EB.out.drew.rd) (by omega) (by omega) capa capb (by rw [hsb, EB.out.len]; omega)).mono ?_
            rintro e w5 ⟨A1, A2, c1, c2, q, rest, rfl, ho1, ho2, hb5, hd⟩
            have hql := div_len hd HE.out.sa HE.out.sb (by rw [EA.out.len]; omega) (by have := HE.out.less; omega)
            rw [EA.out.len, EB.out.len] at hql
            have hdl := hd.less
            rw [hsb, EB.out.len] at hdl
            replace HE3 := Lib.hid (HE3.out q rest hd)
            obtain ⟨nq, hnq⟩ : ∃ n, n = q.length := ⟨_, rfl⟩
            obtain ⟨nr, hnr⟩ : ∃ n, n = rest.length := ⟨_, rfl⟩
            rw [← hnq] at ho1 hql ⊢
            rw [← hnr] at ho2 hdl ⊢
            have EQ := Lib.hid ho1
            have ER := Lib.hid ho2
            have ES5 := Lib.hid ((ES.out.drew).below hb5)
            have ET5 := Lib.hid ((ET.out.drew).below hb5)
            have EB5 := Lib.hid ((EB.out.drew).below hb5)
            have HB5 := Lib.hid (bstep HB.out.drew (Nat.le_refl _) hb5)
            clear ho1 ho2 hb5 hd hnr hnq d2 d3 HW7 HE
            go_wp2_with fail
            refine (pmul_any A1 At nq nt c1 ct q t _ EQ.out.len ET5.out.len (by exact EQ.out.rd) (by exact ET5.out.rd) (by omega)).mono ?_
            rintro e w6 ⟨Am, cm, rfl, hom, hb6⟩
            have hml := mulL_length q t
            rw [EQ.out.len, ET5.out.len] at hml
            obtain ⟨nm, hnm⟩ : ∃ n, n = (mulL q t).length := ⟨_, rfl⟩
            rw [← hnm] at hom hml ⊢
            have EM := Lib.hid hom
            clear hom hnm
            go_wp2_with fail
            refine (padd_any As Am ns nm cs cm s (mulL q t) _ ES5.out.len EM.out.len (by exact (ES5.out.below hb6).rd) (by exact EM.out.rd) (by omega) (by omega)).mono ?_
            rintro e w7 ⟨An, cn, rfl, hon, hb7⟩
            go_wp2_with fail
            have hb67 := bstep hb6 (Nat.le_refl _) hb7
            have hz5 := HB5.out.size
            have hz6 := HB6.out.size
            have hz7 := hb6.size
            have hzr := HB.out.size
            go_roundw
            case rel => exact ⟨Ab, A2, At, An, nb, nr, nt, _, cb, c2, ct, cn, b, rest, t, _, rfl, rfl, rfl, rfl, EB5.out.below hb67, (ER.out.below hb67).less (by show _ ≤ wr.heap.size; omega), ET5.out.below hb67, hon.less (by omega), bstep HB5.out (by omega) hb67, HE3⟩
            case measure => simp only [slen]; omega)
end Go.Proofs.Ythejbmjleohlfaa
