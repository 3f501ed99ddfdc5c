/- The walk of the document's checks. -/
import Derived.Test.YtnbekifcajmdkaaRsc
namespace Go.Proofs.Ytnbekifcajmdkaa
open Go.RowKit

theorem addAt_next' {to p : List F} {k i : Nat} {y a : F} (hi : i < p.length) (hl : k + i < to.length) (ha : a = (addAt to (p.take i) k y).getD (k + i) 0 + p.getD i 0 * y) :
    (addAt to (p.take i) k y).set (k + i) a = addAt to (p.take (i + 1)) k y := by
  refine tab_ext (by rw [List.length_set, addAt_length]) fun j hj => ?_
  by_cases e : k + i = j
  · subst e
    rw [getD_set_eq _ (by rw [addAt_length]; exact hl), ha, addAt_getD _ _ _ _ _ (by rw [List.length_take]; omega), if_pos (by omega), if_pos (by omega), Nat.add_sub_cancel_left, getD_take, getD_take, if_neg (by omega), if_pos (by omega), F.zero_mul, F.add_zero]
  · rw [getD_set_ne _ e, addAt_getD _ _ _ _ _ (by rw [List.length_take]; omega)]
    by_cases h : k ≤ j
    · rw [if_pos h, if_pos h, getD_take, getD_take]
      by_cases h2 : j - k < i
      · rw [if_pos h2, if_pos (by omega)]
      · rw [if_neg h2, if_neg (by omega)]
    · rw [if_neg h, if_neg h]

/-- The product of z less each of the first r powers, the lowest coefficient first. -/
structure GenOf (r : Nat) (g : List F) : Prop where
  length : g.length = r + 1
  top : g.getD r 0 = 1
  value : ∀ j, j < r → pv g (F.px j) = 0
/-- In the midst of a product by z less a symbol: i coefficients are done. -/
def rootMid (g : List F) (a : F) (i : Nat) : List F := tab (g.length + 1) (fun k => (if 0 < k ∧ k ≤ i then g.getD (k - 1) 0 else 0) + (if k < i then g.getD k 0 * a else 0))
theorem rootMid_length (g : List F) (a : F) (i : Nat) : (rootMid g a i).length = g.length + 1 := tab_length _ _
theorem rootMid_start (g : List F) (a : F) : List.replicate (g.length + 1) 0 = rootMid g a 0 := by
  refine tab_ext (by simp) fun j _ => ?_
  rw [getD_replicate, if_neg (by omega), if_neg (by omega), F.add_zero]
theorem rootMid_next {g : List F} {a : F} {i : Nat} (hi : i < g.length) {x y : F} (hx : x = (rootMid g a i).getD (i + 1) 0 + g.getD i 0) (hy : y = (rootMid g a i).getD i 0 + g.getD i 0 * a) :
    ((rootMid g a i).set (i + 1) x).set i y = rootMid g a (i + 1) := by
  have e1 : (rootMid g a i).getD (i + 1) 0 = 0 := by
    rw [rootMid, tab_getD _ _ _ (by omega), if_neg (by omega), if_neg (by omega), F.add_zero]
  have e2 : (rootMid g a i).getD i 0 = if 0 < i then g.getD (i - 1) 0 else 0 := by
    rw [rootMid, tab_getD _ _ _ (by omega), if_neg (show ¬ i < i by omega), F.add_zero]
    by_cases h : 0 < i
    · rw [if_pos h, if_pos ⟨h, by omega⟩]
    · rw [if_neg h, if_neg (fun h2 => h h2.1)]
  refine tab_ext (by rw [List.length_set, List.length_set, rootMid_length]) fun j hj => ?_
  by_cases h1 : i = j
  · subst h1
    rw [getD_set_eq _ (by rw [List.length_set, rootMid_length]; omega), hy, e2, if_pos (show i < i + 1 by omega)]
    congr 1
    by_cases h : 0 < i
    · rw [if_pos h, if_pos ⟨h, by omega⟩]
    · rw [if_neg h, if_neg (fun h2 => h h2.1)]
  · rw [getD_set_ne _ h1]
    by_cases h2 : i + 1 = j
    · subst h2
      rw [getD_set_eq _ (by rw [rootMid_length]; omega), hx, e1, F.zero_add, if_pos ⟨by omega, by omega⟩, if_neg (by omega), F.add_zero]
      rfl
    · rw [getD_set_ne _ h2, rootMid, tab_getD _ _ _ (by omega)]
      congr 1
      · by_cases h : 0 < j ∧ j ≤ i
        · rw [if_pos h, if_pos ⟨h.1, by omega⟩]
        · rw [if_neg h, if_neg (by omega)]
      · by_cases h : j < i
        · rw [if_pos h, if_pos (by omega)]
        · rw [if_neg h, if_neg (by omega)]
theorem pv_rootMid (g : List F) (a x : F) : pv (rootMid g a g.length) x = pv g x * (x + a) := by
  have e : ∀ j, (rootMid g a g.length).getD j 0 = (addR (0 :: g) (scaleL a g)).getD j 0 := fun j => by
    rw [addR_getD, scaleL_getD]
    rcases Nat.lt_or_ge j (g.length + 1) with hj | hj
    · rw [rootMid, tab_getD _ _ _ hj]
      congr 1
      · cases j with
        | zero => rfl
        | succ j => rw [if_pos ⟨by omega, by omega⟩]; rfl
      · by_cases h : j < g.length
        · rw [if_pos h]
        · rw [if_neg h, getD_beyond (by omega), F.zero_mul]
    · rw [getD_beyond (by rw [rootMid_length]; exact hj), getD_beyond (g := 0 :: g) (by simp; omega), getD_beyond (g := g) (by omega), F.zero_mul, F.add_zero]
  rw [pv_same e, pv_addR, pv_zero_cons, pv_scale, F.mul_add, F.mul_comm x]
theorem genOf_next {r : Nat} {g : List F} (h : GenOf r g) : GenOf (r + 1) (rootMid g (F.px r) g.length) := by
  refine ⟨by rw [rootMid_length, h.length], ?_, fun j hj => ?_⟩
  · rw [rootMid, tab_getD _ _ _ (by rw [h.length]; omega), if_pos ⟨by omega, by rw [h.length]; omega⟩, if_neg (by rw [h.length]; omega), F.add_zero]
    exact h.top
  · rw [pv_rootMid]
    by_cases e : j = r
    · subst e; rw [F.add_self, F.mul_zero]
    · rw [h.value j (by omega), F.zero_mul]
theorem genOf_start : GenOf 0 [1] := ⟨rfl, rfl, fun j hj => absurd hj (by omega)⟩

/-- In the midst of the division: what is left of h coefficients. -/
structure LeftOf (data : List F) (r h : Nat) (left : List F) : Prop where
  length : left.length = data.length + r
  value : ∀ j, j < r → pv left (F.px j) = hv (data ++ List.replicate r 0) (F.px j)
  high : ∀ k, h ≤ k → left.getD k 0 = 0
theorem pv_reverse (l : List F) (x : F) : pv l.reverse x = hv l x := by rw [pv_hv, List.reverse_reverse]
theorem leftOf_start (data : List F) (r : Nat) : LeftOf data r (data.length + r) (data ++ List.replicate r 0).reverse :=
  ⟨by simp; omega, fun j _ => pv_reverse _ _, fun k hk => getD_beyond (by simp; omega)⟩
theorem leftOf_step {data : List F} {r h : Nat} {left g : List F} (hl : LeftOf data r (h + 1) left) (hg : GenOf r g) (hh : r ≤ h) (hd : h < data.length + r) : LeftOf data r h (addAt left g (h - r) (left.getD h 0)) := by
  have hle : h - r + g.length ≤ left.length := by rw [hg.length, hl.length]; omega
  refine ⟨by rw [addAt_length, hl.length], fun j hj => ?_, fun k hk => ?_⟩
  · rw [pv_addAt _ _ _ _ _ hle, hg.value j hj, F.zero_mul, F.mul_zero, F.add_zero, hl.value j hj]
  · rw [addAt_getD _ _ _ _ _ hle, if_pos (by omega)]
    by_cases e : k = h
    · subst e
      rw [show k - (k - r) = r from by omega, hg.top, F.one_mul, F.add_self]
    · rw [hl.high k (by omega), getD_beyond (g := g) (by rw [hg.length]; omega), F.zero_mul, F.add_zero]
theorem leftOf_done {data : List F} {r : Nat} {left : List F} (hl : LeftOf data r r left) (hr : r ≤ 65535) : (left.take r).reverse = checkL data r := by
  have hlen : (left.take r).length = r := by rw [List.length_take, hl.length]; omega
  refine checkL_unique (by rw [List.length_reverse, hlen]) hr fun j hj => ?_
  have e1 : ∀ k, left.getD k 0 = (left.take r).getD k 0 := fun k => by
    rw [getD_take]
    by_cases h : k < r
    · rw [if_pos h]
    · rw [if_neg h, hl.high k (by omega)]
  have e2 : hv (left.take r).reverse (F.px j) = hv (data ++ List.replicate r 0) (F.px j) := by
    rw [← pv_reverse, List.reverse_reverse, ← pv_same e1, hl.value j hj]
  rw [hv_append, List.length_reverse, hlen, e2, hv_append, hv_zeros, F.add_zero, List.length_replicate, F.add_self]
theorem getD_reverse {l : List F} {j : Nat} (h : j < l.length) : l.reverse.getD j 0 = l.getD (l.length - 1 - j) 0 := by
  rw [List.getD, List.getD, List.getElem?_reverse h]
/-- The symbols are laid in, the last one first: i are there. -/
def laidTo (data : List F) (r i : Nat) : List F := tab (data.length + r) (fun k => if data.length + r - i ≤ k then (data ++ List.replicate r 0).reverse.getD k 0 else 0)
theorem laidTo_length (data : List F) (r i : Nat) : (laidTo data r i).length = data.length + r := tab_length _ _
theorem laidTo_start (data : List F) (r : Nat) : List.replicate (data.length + r) 0 = laidTo data r 0 := tab_ext (by simp) fun j hj => by
  rw [getD_replicate, if_neg (by omega)]
theorem laidTo_next {data : List F} {r i : Nat} (hi : i < data.length) : (laidTo data r i).set (data.length + r - 1 - i) (data.getD i 0) = laidTo data r (i + 1) := by
  refine tab_ext (by rw [List.length_set, laidTo_length]) fun j hj => ?_
  by_cases e : data.length + r - 1 - i = j
  · subst e
    rw [getD_set_eq _ (by rw [laidTo_length]; omega), if_pos (by omega), getD_reverse (by simp; omega), List.length_append, List.length_replicate, show data.length + r - 1 - (data.length + r - 1 - i) = i from by omega, getD_append_left hi]
  · rw [getD_set_ne _ e, laidTo, tab_getD _ _ _ hj]
    by_cases h : data.length + r - i ≤ j
    · rw [if_pos h, if_pos (by omega)]
    · rw [if_neg h, if_neg (by omega)]
theorem laidTo_done (data : List F) (r : Nat) : laidTo data r data.length = (data ++ List.replicate r 0).reverse := (tab_ext (by simp; omega) fun j hj => by
  by_cases h : data.length + r - data.length ≤ j
  · rw [if_pos h]
  · rw [if_neg h, getD_reverse (by simp; omega), List.length_append, List.length_replicate, getD_append_right (by omega), getD_replicate]).symm
theorem outs_done {left : List F} {r : Nat} (h : r ≤ left.length) : tab r (fun t => left.getD (r - 1 - t) 0) = (left.take r).reverse := (tab_ext (by rw [List.length_reverse, List.length_take]; omega) fun j hj => by
  rw [getD_reverse (by rw [List.length_take]; omega), List.length_take, Nat.min_eq_left h, getD_take, if_pos (by omega)]).symm

theorem own_less {w : World} {B B' n c : Nat} {A : Option Addr} {l : List F} (h : Own w B A n c l) (hB : B' ≤ B) : Own w B' A n c l := by
  refine ⟨h.1, h.2.1, ?_⟩
  rcases h.2.2 with h | ⟨g', cap, cur, hv, hb, h⟩
  · exact .inl h
  · exact .inr ⟨g', cap, cur, hv, Nat.le_trans hB hb, h⟩

set_option maxRecDepth 100000 in
set_option maxHeartbeats 8000000 in
theorem rcheck_ok (A : Option Addr) (n c r : Nat) (l : List F) (w : World) (hl : l.length = n) (hrd : Rd w w.heap.size A l) (hnr : n + r ≤ 255) :
    Calls Try.prog 14 #[.slice A n c, .int .i64 r] w (RetOwn2 w (checkL l r)) := by
  have HL := Lib.hid hl
  have HRD := Lib.hid hrd
  have HFIN := Lib.hid (fun left => leftOf_done (data := l) (r := r) (left := left))
  clear hl hrd
  go_enter Try.func14, Try.ntmps14
  by_cases hr1000 : (1000 : Int) < (r : Int)
  · exfalso; omega
  go_wp2
  go_loopw [6, 7, 8] (fun v p j wr => ∃ (k : Nat) (A : Option Addr) (c : Nat) (g : List F), k ≤ r ∧ j = .int .i64 k ∧ p = .int .u16 (F.px k).nat ∧ v = .slice A (k + 1) c ∧ Own wr w.heap.size A (k + 1) c g ∧ Hid (GenOf k g) ∧ Below w.heap.size w wr) (fun _ _ j _ => r - (intOf j).toNat)
  case atStart => exact ⟨0, _, _, [1], by omega, rfl, rfl, rfl, Own.lit w w.heap.size [1] _ (Nat.le_refl _) (by decide) rfl, Lib.hid genOf_start, balloc _ _⟩
  case round =>
    obtain ⟨wo, rfl⟩ : ∃ wo, wo = wr := ⟨_, rfl⟩
    obtain ⟨k, Ag, cg, g, hk, rfl, rfl, rfl, hown, HG, hb⟩ := hrel
    have HO := Lib.hid hown
    have HB := Lib.hid hb
    have hsz := hb.size
    clear hown hb
    by_cases hkr : k < r
    · have HPX := Lib.hid (show F.px (k + 1) = F.px k * F.px 1 by rw [F.px_succ, F.mx_eq])
      have HGN := Lib.hid (genOf_next HG.out)
      have HM0 := Lib.hid (rootMid_start g (F.px k))
      rw [HG.out.length] at HM0 HGN
      have HMN := Lib.hid (fun i (hi : i < k + 1) x y => rootMid_next (g := g) (a := F.px k) (i := i) (by rw [HG.out.length]; exact hi) (x := x) (y := y))
      generalize F.px k = p at HPX HGN HM0 HMN
      go_wp2_with (at_make; refine wpList_mk _ rfl _ _ rfl wo.heap.size _ _ (k + 2) rfl rfl (by omega) (by omega) (by omega) (Nat.le_refl _) ?_; intro w1 hown1 hg1)
      have hb1 := (Below.refl wo.heap.size wo).grown hg1 (Nat.le_refl _) (by simp)
      rw [HM0.out] at hown1
      have HO1 := Lib.hid hown1
      have HB1 := Lib.hid hb1
      clear hown1 hg1 hb1
      go_loopw [10] (fun j wr => ∃ i : Nat, i ≤ k + 1 ∧ j = .int .i64 i ∧ Own wr wo.heap.size (some ⟨wo.heap.size, 0, none⟩) (k + 2) (k + 2) (rootMid g p i) ∧ Below wo.heap.size wo wr) (fun j _ => k + 1 - (intOf j).toNat)
      case atStart => exact ⟨0, by omega, rfl, HO1.out, HB1.out⟩
      case round =>
        obtain ⟨i, hi, rfl, hom, hbm⟩ := hrel
        have HBM := Lib.hid hbm
        have HOG := Lib.hid (HO.out.below hbm)
        have HOM := Lib.hid hom
        clear hom hbm
        by_cases hik : i < k + 1
        · obtain ⟨gg, rfl, hgg1, hgg2⟩ := HO.out.form (by omega)
          have cg1 := HOG.out.cell hik
          have cm1 := HOM.out.cell (j := i + 1) (by omega)
          have cm0 := HOM.out.cell (j := i) (by omega)
          have fm1 := HOM.out.frozen (i + 1)
          have HX := Lib.hid (HMN.out i hik _ _ rfl rfl)
          obtain ⟨cur, hcur⟩ : ∃ cur, cur = rootMid g p i := ⟨_, rfl⟩
          rw [← hcur] at HX HOM cm1 cm0
          have hlen := HOM.out.len
          have HSE := Lib.hid (getD_set_ne (l := cur) (i := i + 1) (j := i) (cur.getD (i + 1) 0 + g.getD i 0) (by omega))
          clear hcur
          obtain ⟨x1, hx1⟩ : ∃ x1, x1 = cur.getD (i + 1) 0 := ⟨_, rfl⟩
          obtain ⟨x0, hx0⟩ : ∃ x0, x0 = cur.getD i 0 := ⟨_, rfl⟩
          obtain ⟨y, hy⟩ : ∃ y, y = g.getD i 0 := ⟨_, rfl⟩
          rw [← hx1] at HX cm1 HSE
          rw [← hx0] at HX cm0 HSE
          rw [← hy] at HX cg1 HSE
          clear hx1 hx0 hy
          have z1 : (0 : Int) ≤ (i : Int) + 1 := by omega
          have z2 : (i : Int) + 1 < (k : Int) + 2 := by omega
          have z3 : ((i : Int) + 1).toNat = i + 1 := by omega
          have z4 : (0 : Int) ≤ (i : Int) := by omega
          have z5 : (i : Int) < (k : Int) + 2 := by omega
          have z6 : (i : Int) < (k : Int) + 1 := by omega
          have z7 : IntKind.i64.wrap ((i : Int) + 1) = (i : Int) + 1 := IntWalk.i64_in _ ⟨by omega, by omega⟩
          have hne : gg ≠ wo.heap.size := by omega
          have hxor := bits_xor x1 y
          go_wp2
          refine region_tail 14 (by kernel_rfl) (by kernel_rfl) ?_
          simp only [List.take_succ_cons, List.take_zero, List.drop_succ_cons, List.drop_zero]
          repeat (first
            | still_step)
          refine wpStill_nil ?_
          have o2 := HOM.out.store (i + 1) (x1 + y) rfl
          have HOM2 := Lib.hid o2.drew
          have HBM2 := Lib.hid (HBM.out.setCell (p := ⟨wo.heap.size, i + 1, none⟩) (Nat.le_refl _) (.int .u16 ((x1 + y : F).nat : Int))).drew
          clear o2
          go_wp2_with fail
          obtain ⟨W2, hW2⟩ : ∃ W2, (wr.setCell ⟨wo.heap.size, i + 1, none⟩ (.int .u16 ((x1 + y : F).nat : Int))).drew = W2 := ⟨_, rfl⟩
          rw [hW2] at HOM2 HBM2 ⊢
          clear hW2
          have dm0 := HOM2.out.cell (j := i) (by omega)
          rw [HSE.out] at dm0
          have dg := (HO.out.below HBM2.out).cell hik
          have dfm := HOM2.out.frozen i
          have e0 := HX.out
          have dgy := (HBM2.out.cell (p := ⟨gg, i, none⟩) hgg2).trans ((HBM.out.cell (p := ⟨gg, i, none⟩) hgg2).symm.trans cg1)
          clear dg e0 cm0 cm1 fm1 cg1
          have hxor2 := bits_xor x0 (y * p)
          refine region_tail 14 (by kernel_rfl) (by kernel_rfl) ?_
          simp only [List.take_succ_cons, List.take_zero, List.drop_succ_cons, List.drop_zero]
          repeat (first
            | still_step
            | still_call (stillOf (rmul_any _ _ y p _ rfl rfl)))
          refine wpStill_nil ?_
          go_wp2
          go_roundw
          case rel => exact ⟨i + 1, by omega, by go_num, by rw [← HX.out]; exact (HOM2.out.store i _ rfl).drew, (HBM2.out.setCell (p := ⟨wo.heap.size, i, none⟩) (Nat.le_refl _) _).drew⟩
          case measure => simp only [intOf]; omega
        · obtain rfl : i = k + 1 := by omega
          go_wp2_with (go_at_call 26; refine (rmul_any _ _ p (F.px 1) _ rfl (by rfl)).mono ?_; rintro e w' ⟨rfl, rfl⟩)
          go_roundw
          case rel => exact ⟨k + 1, _, _, _, by omega, by go_num, by rw [HPX.out], rfl, own_less HOM.out hsz, HGN, bstep HB.out (Nat.le_refl _) HBM.out⟩
          case measure => simp only [intOf]; omega
    · obtain rfl : r = k := by omega
      have LS := Lib.hid (laidTo_start l r)
      have LN := Lib.hid (fun i (hi : i < n) => laidTo_next (data := l) (r := r) (i := i) (by rw [HL.out]; exact hi))
      have LD := Lib.hid (laidTo_done l r)
      have LF := Lib.hid (leftOf_start l r)
      have LST := Lib.hid (fun h left => leftOf_step (data := l) (r := r) (h := h) (left := left) (g := g))
      rw [HL.out] at LS LN LD LF LST
      obtain ⟨N, hN⟩ : ∃ N, N = n + r := ⟨_, rfl⟩
      rw [← hN] at LS LN LF LST
      have hN1 : (n : Int) + (r : Int) = (N : Int) := by omega
      have hN2 : N ≤ 255 := by omega
      have hNn : N = n + r := hN
      have HNN := Lib.hid hN
      have hn1 : n ≤ N := by omega
      have hr1 : r ≤ N := by omega
      have wN : IntKind.i64.wrap ((n : Int) + (r : Int)) = (N : Int) := by rw [hN1]; exact IntWalk.i64_in _ ⟨by omega, by omega⟩
      have wN1 : IntKind.i64.wrap ((N : Int) - 1) = (N : Int) - 1 := IntWalk.i64_in _ ⟨by omega, by omega⟩
      clear hN hNn
      go_wp2_with (at_make; refine wpList_mk _ rfl _ _ rfl wo.heap.size _ _ N rfl rfl (by omega) (by omega) (by omega) (Nat.le_refl _) ?_; intro w1 hown1 hg1)
      have hb1 := (Below.refl wo.heap.size wo).grown hg1 (Nat.le_refl _) (by simp)
      rw [LS.out] at hown1
      have HO1 := Lib.hid hown1
      have HB1 := Lib.hid hb1
      clear hown1 hg1 hb1
      go_loopw [12] (fun j wr => ∃ i : Nat, i ≤ n ∧ j = .int .i64 i ∧ Own wr wo.heap.size (some ⟨wo.heap.size, 0, none⟩) N N (laidTo l r i) ∧ Below wo.heap.size wo wr) (fun j _ => n - (intOf j).toNat)
      case atStart => exact ⟨0, by omega, rfl, HO1.out, HB1.out⟩
      case round =>
        obtain ⟨i, hi, rfl, hom, hbm⟩ := hrel
        have HBM := Lib.hid hbm
        have HOM := Lib.hid hom
        clear hom hbm
        by_cases hin : i < n
        · obtain ⟨b, off, rfl, hlt, hc⟩ := (HRD.out.below (HB.out.trans (HBM.out.mono hsz))) (by rw [HL.out]; omega)
          have cc := hc i (by rw [HL.out]; exact hin)
          have HX := Lib.hid (LN.out i hin)
          have cm := HOM.out.cell (j := N - 1 - i) (by omega)
          have fm := HOM.out.frozen (N - 1 - i)
          clear hc
          generalize laidTo l r i = cur at HOM HX cm
          generalize l.getD i 0 = y at cc HX
          generalize cur.getD (N - 1 - i) 0 = x0 at cm
          have z1 : (0 : Int) ≤ (N : Int) - 1 - (i : Int) := by omega
          have z2 : (N : Int) - 1 - (i : Int) < (N : Int) := by omega
          have z3 : ((N : Int) - 1 - (i : Int)).toNat = N - 1 - i := by omega
          have z4 : (0 : Int) ≤ (i : Int) := by omega
          have z5 : (i : Int) < (n : Int) := by omega
          have z6 : IntKind.i64.wrap ((N : Int) - 1 - (i : Int)) = (N : Int) - 1 - (i : Int) := IntWalk.i64_in _ ⟨by omega, by omega⟩
          go_wp2
          go_roundw
          case rel => exact ⟨i + 1, by omega, by go_num, by rw [← HX.out]; exact HOM.out.store (N - 1 - i) _ rfl, HBM.out.setCell (p := ⟨wo.heap.size, N - 1 - i, none⟩) (Nat.le_refl _) _⟩
          case measure => simp only [intOf]; omega
        · obtain rfl : i = n := by omega
          rw [LD.out] at HOM
          generalize (l ++ List.replicate r 0).reverse = left0 at HOM LF
          go_wp2_with fail
          obtain ⟨wm, rfl⟩ : ∃ wm, wm = wr := ⟨_, rfl⟩
          go_loopw [13] (fun j wr => ∃ (h : Nat) (left : List F), r ≤ h ∧ h ≤ N ∧ j = .int .i64 ((h : Int) - 1) ∧ Own wr wo.heap.size (some ⟨wo.heap.size, 0, none⟩) N N left ∧ Hid (LeftOf l r h left) ∧ Below wo.heap.size wo wr) (fun j _ => (intOf j + 1).toNat)
          case atStart => exact ⟨N, left0, hr1, Nat.le_refl _, rfl, HOM.out, LF, HBM.out⟩
          case round =>
            obtain ⟨wp, rfl⟩ : ∃ wp, wp = wr := ⟨_, rfl⟩
            obtain ⟨h, left, hrh, hhN, rfl, hol, HLF, hbl⟩ := hrel
            have HBL := Lib.hid hbl
            have HOL := Lib.hid hol
            clear hol hbl
            by_cases hhr : r < h
            · obtain ⟨t, rfl⟩ : ∃ t, h = t + 1 := ⟨h - 1, by omega⟩
              obtain ⟨u, hu⟩ : ∃ u, u = t - r := ⟨_, rfl⟩
              have hu1 : t ≤ u + r := by omega
              have hu2 : u + r ≤ t := by omega
              have HST := Lib.hid (LST.out t left HLF HG.out (by omega) (by omega))
              rw [← hu] at HST
              have z0 : (((t + 1 : Nat) : Int) - 1) = (t : Int) := by omega
              rw [z0]
              have z1 : (0 : Int) ≤ (t : Int) := by omega
              have z2 : (t : Int) < (N : Int) := by omega
              have z3 : (r : Int) ≤ (t : Int) := by omega
              have z4 : IntKind.i64.wrap ((t : Int) - (r : Int)) = (u : Int) := by rw [show (t : Int) - (r : Int) = (u : Int) by omega]; exact IntWalk.i64_in _ ⟨by omega, by omega⟩
              have z5 : IntKind.i64.wrap ((t : Int) - 1) = (t : Int) - 1 := IntWalk.i64_in _ ⟨by omega, by omega⟩
              have ct := HOL.out.cell (j := t) (by omega)
              obtain ⟨cc, hcc⟩ : ∃ cc, left.getD t 0 = cc := ⟨_, rfl⟩
              rw [hcc] at HST ct
              clear hcc z0 hu
              go_wp2_with fail
              go_loopw [15] (fun j wr => ∃ i : Nat, i ≤ r + 1 ∧ j = .int .i64 i ∧ Own wr wo.heap.size (some ⟨wo.heap.size, 0, none⟩) N N (addAt left (g.take i) u cc) ∧ Below wo.heap.size wo wr) (fun j _ => r + 1 - (intOf j).toNat)
              case atStart => exact ⟨0, by omega, rfl, by rw [addAt_start]; exact HOL.out, HBL.out⟩
              case round =>
                obtain ⟨i, hi, rfl, hoi, hbi⟩ := hrel
                have HBI := Lib.hid hbi
                have HOI := Lib.hid hoi
                have HOG := Lib.hid (HO.out.below hbi)
                clear hoi hbi
                by_cases hir : i < r + 1
                · obtain ⟨gg, rfl, hgg1, hgg2⟩ := HO.out.form (by omega)
                  have cg1 := HOG.out.cell hir
                  have ci := HOI.out.cell (j := u + i) (by omega)
                  have fi := HOI.out.frozen (u + i)
                  have HX := Lib.hid (addAt_next' (to := left) (p := g) (k := u) (i := i) (y := cc) (by rw [HG.out.length]; exact hir) (by rw [HOL.out.len]; omega) rfl)
                  generalize addAt left (g.take i) u cc = cur at HOI HX ci
                  generalize cur.getD (u + i) 0 = x2 at ci HX
                  generalize g.getD i 0 = x1 at cg1 HX
                  rw [F.mul_comm x1 cc] at HX
                  have hxor := bits_xor x2 (cc * x1)
                  have y1 : (0 : Int) ≤ (i : Int) := by omega
                  have y2 : (i : Int) < (r : Int) + 1 := by omega
                  have y3 : (0 : Int) ≤ (u : Int) + (i : Int) := by omega
                  have y4 : (u : Int) + (i : Int) < (N : Int) := by omega
                  have y5 : ((u : Int) + (i : Int)).toNat = u + i := by omega
                  have y6 : IntKind.i64.wrap ((u : Int) + (i : Int)) = (u : Int) + (i : Int) := IntWalk.i64_in _ ⟨by omega, by omega⟩
                  go_wp2
                  refine region_tail 22 (by kernel_rfl) (by kernel_rfl) ?_
                  simp only [List.take_succ_cons, List.take_zero, List.drop_succ_cons, List.drop_zero]
                  repeat (first
                    | still_step
                    | still_call (stillOf (rmul_any _ _ cc x1 _ rfl rfl)))
                  refine wpStill_nil ?_
                  go_wp2
                  go_roundw
                  case rel => exact ⟨i + 1, by omega, by go_num, by rw [← HX.out]; exact (HOI.out.store (u + i) _ rfl).drew, (HBI.out.setCell (p := ⟨wo.heap.size, u + i, none⟩) (Nat.le_refl _) _).drew⟩
                  case measure => simp only [intOf]; omega
                · obtain rfl : i = r + 1 := by omega
                  have e : g.take (r + 1) = g := List.take_of_length_le (by rw [HG.out.length]; omega)
                  rw [e] at HOI
                  clear e
                  go_wp2
                  go_roundw
                  case rel => exact ⟨t, _, by omega, by omega, rfl, HOI.out, HST, HBI.out⟩
                  case measure => simp only [intOf]; omega
            · obtain rfl : r = h := by omega
              have HF := Lib.hid (HFIN.out left HLF.out (by omega))
              have HOUT := Lib.hid (outs_done (left := left) (r := r) (by rw [HOL.out.len]; exact hr1))
              have wr1 : IntKind.i64.wrap ((r : Int) - 1) = (r : Int) - 1 := IntWalk.i64_in _ ⟨by omega, by omega⟩
              go_wp2_with fail
              go_loopw [16, 17] (fun v j wr => ∃ (k : Nat) (A : Option Addr) (c : Nat), k ≤ r ∧ j = .int .i64 ((r : Int) - 1 - (k : Int)) ∧ v = .slice A k c ∧ Own wr wp.heap.size A k c (tab k (fun t => left.getD (r - 1 - t) 0)) ∧ Below wp.heap.size wp wr) (fun _ j _ => (intOf j + 1).toNat)
              case atStart => exact ⟨0, _, _, by omega, by congr 1; omega, rfl, Own.lit wp wp.heap.size [] _ (Nat.le_refl _) (by decide) rfl, balloc _ _⟩
              case round =>
                obtain ⟨k, Ao, co, hk, rfl, rfl, hoo, hbo⟩ := hrel
                have HBO := Lib.hid hbo
                have HOO := Lib.hid hoo
                have hszo := hbo.size
                have HLW := Lib.hid (HOL.out.below hbo)
                clear hoo hbo
                by_cases hkr2 : k < r
                · have HS := Lib.hid (tab_snoc' (fun t => left.getD (r - 1 - t) 0) k)
                  have cl := HLW.out.cell (j := r - 1 - k) (by omega)
                  generalize tab k (fun t => left.getD (r - 1 - t) 0) = cur at HOO HS
                  generalize left.getD (r - 1 - k) 0 = y at cl HS
                  obtain ⟨q, hq⟩ : ∃ q, q = r - 1 - k := ⟨_, rfl⟩
                  rw [← hq] at cl
                  have z0 : (r : Int) - 1 - (k : Int) = (q : Int) := by omega
                  rw [z0]
                  have z1 : (0 : Int) ≤ (q : Int) := by omega
                  have z2 : (q : Int) < (N : Int) := by omega
                  have z3 : IntKind.i64.wrap ((q : Int) - 1) = (q : Int) - 1 := IntWalk.i64_in _ ⟨by omega, by omega⟩
                  have z4 : (q : Int) - 1 = (r : Int) - 1 - ((k : Int) + 1) := by omega
                  clear hq
                  go_wp2_with (at_builtin; refine wpList_push _ rfl _ _ rfl wp.heap.size _ _ _ _ rfl (HOO.out.alloc _) wr.heap.size 1 y _ rfl rfl (by go_cell) (by omega) (by simp; omega) ?_; intro A5 c5 w5 hown1 hb1 hg1)
                  go_roundw
                  case rel => exact ⟨k + 1, A5, c5, by omega, by congr 1, rfl, by rw [← HS.out]; exact hown1, (HBO.out.alloc hszo _).trans hb1⟩
                  case measure => simp only [intOf]; omega
                · obtain rfl : r = k := by omega
                  have z0 : (r : Int) - 1 - (r : Int) = -1 := by omega
                  rw [z0]
                  rw [HOUT.out, HF.out] at HOO
                  go_wp2
                  go_ret2
                  have hlen := checkL_length l r
                  refine ⟨Ao, co, etup_sn hlen.symm, ?_, bstep (bstep HB.out (Nat.le_refl _) HBL.out) (Nat.le_refl _) HBO.out⟩
                  rw [hlen]
                  exact own_less HOO.out (Nat.le_trans hsz HBL.out.size)

set_option maxHeartbeats 1000000 in
theorem rcheck_bad (A : Option Addr) (n c : Nat) (r : Int) (w : World) (h : r < 0 ∨ 255 < r ∨ 255 - r < (n : Int)) (hn : n ≤ 1000) :
    Calls Try.prog 14 #[.slice A n c, .int .i64 r] w fun e w' => e = .returned (.tuple #[.slice none 0 0, .int .i64 1]) ∧ w = w' := by
  by_cases h1 : r < 0
  · have t1 : decide (r < 0) = true := by simp; omega
    clear h h1
    go_enter Try.func14, Try.ntmps14
    go_wp2
    all_goals (go_ret2; exact ⟨rfl, rfl⟩)
  · have t1 : decide (r < 0) = false := by simp; omega
    by_cases h2 : 1000 < r
    · have q : IntKind.i64.wrap ((n : Int) + 1000) = (n : Int) + 1000 := IntWalk.i64_in _ ⟨by omega, by omega⟩
      have t2 : decide ((255 : Int) < (n : Int) + 1000) = true := by simp; omega
      clear h h1
      go_enter Try.func14, Try.ntmps14
      go_wp2
      all_goals (go_ret2; exact ⟨rfl, rfl⟩)
    · have q : IntKind.i64.wrap ((n : Int) + r) = (n : Int) + r := IntWalk.i64_in _ ⟨by omega, by omega⟩
      have t2 : decide ((255 : Int) < (n : Int) + r) = true := by simp; omega
      clear h h1
      go_enter Try.func14, Try.ntmps14
      go_wp2
      all_goals (go_ret2; exact ⟨rfl, rfl⟩)
end Go.Proofs.Ytnbekifcajmdkaa
