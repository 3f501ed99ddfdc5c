/- The walk of the document's division of polynomials. -/
import Derived.Test.YtneciddigglnmaaPr
namespace Go.Proofs.Ytneciddigglnmaa
open Go.RowKit

/-- In the midst of the division by hand. -/
structure RMid (a b q r : List F) : Prop where
  value : ∀ x, pv r x + pv q x * pv b x = pv a x
  short : IsShort r
  low : ∀ j, j + b.length ≤ r.length → q.getD j 0 = 0
theorem rmid_start {a : List F} (b : List F) (h : IsShort a) : RMid a b [] a := ⟨fun x => by show _ + 0 * _ = _; rw [F.zero_mul, F.add_zero], h, fun j _ => rfl⟩
theorem rmid_step {a b q r : List F} {n : Nat} (h : RMid a b q r) (hb : 0 < b.length) (hn : r.length = n + b.length) {i y : F} (hi : b.getD (b.length - 1) 0 * i = 1) (hy : y = r.getD (n + b.length - 1) 0 * i) {q1 : List F} (hq1 : ∀ j, q1.getD j 0 = q.getD j 0) (hl : n < q1.length) :
    RMid a b (q1.set n y) (shortL (addAt r b n y)) ∧ (shortL (addAt r b n y)).length < r.length := by
  have hlen : (shortL (addAt r b n y)).length ≤ r.length - 1 := by
    refine short_less fun j hj => ?_
    rw [addAt_getD _ _ _ _ _ (by omega), if_pos (by omega)]
    by_cases e : j = n + b.length - 1
    · subst e
      rw [show n + b.length - 1 - n = b.length - 1 from by omega, hy]
      have e2 : b.getD (b.length - 1) 0 * (r.getD (n + b.length - 1) 0 * i) = r.getD (n + b.length - 1) 0 := by
        rw [F.mul_left_comm, hi, F.mul_one]
      rw [e2, F.add_self]
    · rw [getD_beyond (g := r) (by omega), getD_beyond (g := b) (by omega), F.zero_mul, F.add_zero]
  refine ⟨⟨fun x => ?_, shortL_short _, fun j hj => ?_⟩, by omega⟩
  · rw [pv_short, pv_set hl, pv_addAt _ _ _ _ _ (by omega), hq1 n, h.low n (by omega), F.zero_add, pv_same hq1, ← h.value x, F.add_mul]
    have e : F.pow x n * y * pv b x = F.pow x n * (pv b x * y) := by ac_rfl
    rw [e]
    have e2 : ∀ u v t : F, u + t + (v + t) = u + v := fun u v t => by rw [F.add_comm v t, F.add_assoc, F.add_cancel_left]
    exact e2 _ _ _
  · rw [getD_set_ne _ (by omega), hq1 j]
    exact h.low j (by omega)
theorem rmid_done {a b q r : List F} (h : RMid (shortL a) (shortL b) q r) (hr : r.length < (shortL b).length) (hq : q.length ≤ a.length) : DivOf a b (shortL q) r :=
  ⟨shortL_short _, h.short, hr, Nat.le_trans (shortL_length _) hq, fun x => by rw [pv_short, ← pv_short a, ← pv_short b, F.add_comm]; exact (h.value x).symm⟩
theorem getD_push (l : List F) (j : Nat) : (l ++ [0]).getD j 0 = l.getD j 0 := by
  rcases Nat.lt_or_ge j l.length with h | h
  · exact getD_append_left h
  · rw [getD_append_right h, getD_out h]
    cases j - l.length with
    | zero => rfl
    | succ k => rfl

set_option maxRecDepth 100000 in
set_option maxHeartbeats 4000000 in
theorem rdiv_bad (A1 A2 : Option Addr) (n1 n2 c1 c2 : Nat) (l1 l2 : List F) (w : World) (h1 : l1.length = n1) (h2 : l2.length = n2) (hr1 : Rd w w.heap.size A1 l1) (hr2 : Rd w w.heap.size A2 l2) (hn1 : n1 ≤ 60000) (hn2 : n2 ≤ 60000) (hc1 : n1 ≤ c1) (hc2 : n2 ≤ c2) (hz : shortL l2 = []) :
    Calls Try.prog 17 #[.slice A1 n1 c1, .slice A2 n2 c2] w fun e w' => e = .returned (.tuple #[.slice none 0 0, .slice none 0 0, .int .i64 1]) ∧ Below w.heap.size w w' := by
  have H1 := Lib.hid h1
  have H2 := Lib.hid h2
  have R1 := Lib.hid hr1
  have R2 := Lib.hid hr2
  have HZ := Lib.hid (show (shortL l2).length = 0 by rw [hz]; rfl)
  clear h1 h2 hr1 hr2 hz
  go_enter Try.func17, Try.ntmps17
  go_wp2_with (first
   | (go_at_call 19; refine (rshort_any A1 n1 c1 l1 _ H1.out R1.out (by omega) hc1).mono ?_; rintro e w1 ⟨Ar, cr, rfl, ho1, hb1⟩; clear R1)
   | (go_at_call 19; refine (rshort_any A2 n2 c2 l2 _ H2.out (by exact (R2.out.below hb1).more hb1.size) (by omega) hc2).mono ?_; rintro e w2 ⟨Ab, cb, rfl, ho2, hb2⟩; rw [HZ.out]))
  go_ret3
  exact ⟨rfl, bstep hb1 (Nat.le_refl _) hb2⟩

set_option maxRecDepth 100000 in
set_option maxHeartbeats 4000000 in
theorem rdiv_ok (A1 A2 : Option Addr) (n1 n2 c1 c2 : Nat) (l1 l2 : List F) (w : World) (h1 : l1.length = n1) (h2 : l2.length = n2) (hr1 : Rd w w.heap.size A1 l1) (hr2 : Rd w w.heap.size A2 l2) (hn1 : n1 ≤ 60000) (hn2 : n2 ≤ 60000) (hc1 : n1 ≤ c1) (hc2 : n2 ≤ c2) (hz : 0 < (shortL l2).length) :
    Calls Try.prog 17 #[.slice A1 n1 c1, .slice A2 n2 c2] w (RetDiv w l1 l2) := by
  have H1 := Lib.hid h1
  have H2 := Lib.hid h2
  have R1 := Lib.hid hr1
  have R2 := Lib.hid hr2
  have b1 := shortL_length l1
  have b2 := shortL_length l2
  have s2 := Lib.hid (shortL_short l2 hz)
  have HD := Lib.hid (fun q r => rmid_done (a := l1) (b := l2) (q := q) (r := r))
  have HS := Lib.hid (rmid_start (shortL l2) (shortL_short l1))
  rw [h1] at b1
  rw [h2] at b2
  clear h1 h2 hr1 hr2
  go_enter Try.func17, Try.ntmps17
  go_wp2_with fail
  refine (rshort_any A1 n1 c1 l1 _ H1.out R1.out (by omega) hc1).mono ?_
  rintro e w1 ⟨Ar, cr, rfl, ho1, hb1⟩
  go_wp2_with fail
  refine (rshort_any A2 n2 c2 l2 _ H2.out (by exact (R2.out.below hb1).more hb1.size) (by omega) hc2).mono ?_
  rintro e w2 ⟨Ab, cb, rfl, ho2, hb2⟩
  generalize e1 : (shortL l1).length = lr at *
  generalize e2 : (shortL l2).length = lb at *
  generalize shortL l1 = rs at *
  generalize shortL l2 = bs at *
  have HRL := Lib.hid e1
  have HBL := Lib.hid e2
  clear e1 e2
  obtain ⟨gb, rfl, hgb1, hgb2⟩ := ho2.form hz
  have cb1 := ho2.cell (j := lb - 1) (by omega)
  have HI := Lib.hid (F.mul_inv s2.out)
  have hne : bs.getD (lb - 1) 0 ≠ 0 := s2.out
  have hdec : (!decide (bs.getD (lb - 1) 0 = 0)) = true := by rw [decide_eq_false hne]; rfl
  have HDEC := Lib.hid hdec
  clear hdec hne s2
  obtain ⟨bl, hbl⟩ : ∃ bl, bs.getD (lb - 1) 0 = bl := ⟨_, rfl⟩
  rw [hbl] at cb1 HI HDEC
  have HBLL := Lib.hid hbl
  clear hbl
  have HB := Lib.hid (bstep hb1 (Nat.le_refl _) hb2)
  have OR := Lib.hid (ho1.below hb2)
  have OB := Lib.hid ho2
  have hsz := hb1.size
  have hsz2 := hb2.size
  have HRF := Lib.hid (fun h => ho1.form h)
  clear ho1 ho2 hb1 hb2
  have q1 : (0 : Int) ≤ (lb : Int) - 1 := by omega
  have q2 : (lb : Int) - 1 < (lb : Int) := by omega
  have q3 : ((lb : Int) - 1).toNat = lb - 1 := by omega
  have q4 : IntKind.i64.wrap ((lb : Int) - 1) = (lb : Int) - 1 := IntWalk.i64_in _ ⟨by omega, by omega⟩
  go_wp2_with (go_at_call 35; refine (rinv_any _ bl _ rfl).mono ?_; rintro e w' ⟨rfl, rfl⟩; rw [HDEC.out])
  go_loopw [0, 9] (fun v qv wr => ∃ (q r : List F) (Aq Ar' : Option Addr) (nq cq n cr : Nat), v = .slice Ar' n cr ∧ qv = .slice Aq nq cq ∧ n ≤ n1 ∧ nq ≤ n1 ∧ Own wr w.heap.size Ar' n cr r ∧ Own wr w2.heap.size Aq nq cq q ∧ Own wr w1.heap.size (some ⟨gb, 0, none⟩) lb cb bs ∧ Below w.heap.size w wr ∧ w2.heap.size ≤ wr.heap.size ∧ Hid (RMid rs bs q r) ∧
      (0 < n → ∃ gr, Ar' = some ⟨gr, 0, none⟩ ∧ gr ≠ gb ∧ ((nq = 0 ∧ gr < w2.heap.size) ∨ (n < nq + lb ∧ ∃ gq, Aq = some ⟨gq, 0, none⟩ ∧ gr ≠ gq)))) (fun v _ _ => match v with | .slice _ n _ => n | _ => 0)
  case atStart => exact ⟨[], rs, none, Ar, 0, 0, lr, cr, rfl, rfl, b1, by omega, OR.out, Own.nil _ _, OB.out, HB.out, Nat.le_refl _, HS, fun h => by
    obtain ⟨g, e, _, hg⟩ := HRF.out h
    exact ⟨g, e, by omega, .inl ⟨rfl, by omega⟩⟩⟩
  case round =>
    obtain ⟨wo, rfl⟩ : ∃ wo, wo = wr := ⟨_, rfl⟩
    obtain ⟨q, r, Aq, Ar', nq, cq, n, cr, rfl, rfl, hn, hnq, hor, hoq, hob, hbr, hszr, HM, hdis⟩ := hrel
    clear HRF HS OR OB HB
    by_cases hge : lb ≤ n
    · obtain ⟨gr, rfl, hgrb, hd⟩ := hdis (by omega)
      obtain ⟨i, hni⟩ : ∃ i, n = i + lb := ⟨n - lb, by omega⟩
      subst hni
      have w1' : IntKind.i64.wrap ((i : Int) + (lb : Int) - (lb : Int)) = (i : Int) := by rw [show (i : Int) + (lb : Int) - (lb : Int) = (i : Int) by omega]; exact IntWalk.i64_in _ ⟨by omega, by omega⟩
      have w2' : IntKind.i64.wrap ((i : Int) + (lb : Int) - 1) = (i : Int) + (lb : Int) - 1 := IntWalk.i64_in _ ⟨by omega, by omega⟩
      have z4 : (0 : Int) ≤ (i : Int) + (lb : Int) - 1 := by omega
      have z5 : (i : Int) + (lb : Int) - 1 < (i : Int) + (lb : Int) := by omega
      have z6 : ((i : Int) + (lb : Int) - 1).toNat = i + lb - 1 := by omega
      have cr0 := hor.cell (j := i + lb - 1) (by omega)
      obtain ⟨gr', e', hgrw, _⟩ := hor.form (by omega)
      injection e' with e'; injection e' with e'; subst e'
      have hgbr : gb ≠ gr := fun h => hgrb h.symm
      have HOR := Lib.hid hor
      have HOQ := Lib.hid hoq
      have HOB := Lib.hid hob
      have HBR := Lib.hid hbr
      clear hor hoq hob hbr hdis
      generalize hyy : r.getD (i + lb - 1) 0 = yy at cr0
      have HYY := Lib.hid hyy
      clear hyy
      rcases hd with ⟨hq0, hgr2⟩ | ⟨hnlt, gq, rfl, hgrq⟩
      · subst hq0
        have hqn : q = [] := List.eq_nil_of_length_eq_zero HOQ.out.len
        subst hqn
        go_wp2_with fail
        refine (rmul_any _ _ yy (F.inv bl) _ rfl rfl).mono ?_
        rintro e w' ⟨rfl, rfl⟩
        obtain ⟨yb, hyb⟩ : ∃ yb, yy * F.inv bl = yb := ⟨_, rfl⟩
        rw [hyb]
        have HYB := Lib.hid hyb.symm
        clear hyb
        go_wp2_with fail
        go_loopw [9] (fun v wq => ∃ (k : Nat) (A : Option Addr) (c : Nat), k ≤ i + 1 ∧ v = .slice A k c ∧ Own wq w2.heap.size A k c (List.replicate k 0) ∧ Below w2.heap.size wo wq) (fun v _ => match v with | .slice _ k _ => i + 1 - k | _ => 0)
        case atStart => exact ⟨0, Aq, cq, by omega, rfl, HOQ.out, Below.refl _ _⟩
        case round =>
          obtain ⟨k, A, c, hk, rfl, hok, hbk⟩ := hrel
          by_cases hki : k < i + 1
          · have HOK := Lib.hid hok
            have HBK := Lib.hid hbk
            have HRP := Lib.hid (show List.replicate k (0 : F) ++ [0] = List.replicate (k + 1) 0 from List.replicate_succ'.symm)
            have hk1 : k ≤ i := by omega
            have hsk := hbk.size
            clear hok hbk
            generalize List.replicate k (0 : F) = cur at HOK HRP
            go_wp2_with (at_builtin; refine wpList_push _ rfl _ _ rfl w2.heap.size _ _ _ _ rfl (HOK.out.alloc _) _ 1 (0 : F) 0 rfl rfl (by go_cell) (by omega) (by simp; omega) ?_; intro A' c' w5 hown1 hb1 hg1)
            go_roundw
            case rel => exact ⟨k + 1, A', c', by omega, rfl, by rw [← HRP.out]; exact hown1, (HBK.out.alloc (by omega) _).trans hb1⟩
            case measure => show i + 1 - (k + 1) < i + 1 - k; omega
          · obtain rfl : k = i + 1 := by omega
            obtain ⟨gq, rfl, hgq1, hgq2⟩ := hok.form (by omega)
            have hor : Own wr w.heap.size (some ⟨gr, 0, none⟩) (i + lb) cr r := ⟨HOR.out.1, own_block HOR.out.2 (fun g e => by injection e with e; injection e with e; omega) hbk⟩
            have hob : Own wr w1.heap.size (some ⟨gb, 0, none⟩) lb cb bs := ⟨HOB.out.1, own_block HOB.out.2 (fun g e => by injection e with e; injection e with e; omega) hbk⟩
            have hbq := HBR.out.trans (hbk.mono (by omega : w.heap.size ≤ w2.heap.size))
            have hgrq : gr ≠ gq := by omega
            have hgbq : gb ≠ gq := by omega
            have hgqw : w.heap.size ≤ gq := by omega
            have hszq : w2.heap.size ≤ wr.heap.size := by omega
            have hoq := hok
            have HQ1 := Lib.hid (fun j => (getD_replicate (i + 1) j).trans (show (0 : F) = ([] : List F).getD j 0 from rfl))
            clear hok hbk
            generalize List.replicate (i + 1) (0 : F) = q1 at hoq HQ1
            have hnq' : i < i + 1 := by omega
            have cq1 := hoq.cell (j := i) (by omega)
            have fq1 := hoq.frozen i
            have HN := Lib.hid (rmid_step HM.out (by rw [HBL.out]; exact hz) (n := i) (by rw [hor.len, HBL.out]) (i := F.inv bl) (y := yb) (by rw [HBL.out, HBLL.out]; exact HI.out) (by rw [HBL.out, HYY.out, HYB.out]) HQ1.out (by rw [hoq.len]; omega))
            have hq2 := hoq.store i yb rfl
            have hr2 := hor.far (p := ⟨gq, i, none⟩) hgrq (.int .u16 ((yb : F).nat : Int))
            have hb2 := hob.far (p := ⟨gq, i, none⟩) hgbq (.int .u16 ((yb : F).nat : Int))
            have hB2 := hbq.setCell (p := ⟨gq, i, none⟩) hgqw (.int .u16 ((yb : F).nat : Int))
            have Q2 := Lib.hid hq2
            have R2' := Lib.hid hr2
            have B2 := Lib.hid hb2
            have HB2 := Lib.hid hB2
            have hrlen := hor.len
            have HRLEN := Lib.hid hrlen
            clear hq2 hr2 hb2 hB2 hor hoq hob hbq hrlen
            obtain ⟨wS, hwS⟩ : ∃ wS, wr.setCell ⟨gq, i, none⟩ (.int .u16 (yb.nat : Int)) = wS := ⟨_, rfl⟩
            rw [hwS] at Q2 R2' B2 HB2
            have HWS := Lib.hid hwS
            have HSZ := Lib.hid (show w2.heap.size ≤ wS.heap.size by rw [← hwS, World.size_setCell]; exact hszq)
            clear hwS
            have z2 : (0 : Int) ≤ (i : Int) := by omega
            have z3 : (i : Int) < (i : Int) + 1 := by omega
            go_wp2_with fail
            rw [HWS.out]
            go_loopw [12] (fun v wk => ∃ k : Nat, k ≤ lb ∧ v = .int .i64 k ∧ Own wk w.heap.size (some ⟨gr, 0, none⟩) (i + lb) cr (addAt r (bs.take k) i yb) ∧ Spare gr wS wk) (fun v _ => lb - (intOf v).toNat)
            case atStart => exact ⟨0, by omega, rfl, by rw [addAt_start]; exact R2'.out, Spare.refl _ _⟩
            case round =>
              obtain ⟨k, hk, rfl, ho, hs⟩ := hrel
              have HSP := Lib.hid hs
              by_cases hkb : k < lb
              · have c1' := (B2.out.spare hs hgbr).cell hkb
                have c2' := ho.cell (j := i + k) (by omega)
                have hfz := ho.frozen (i + k)
                have HX := Lib.hid (addAt_next (to := r) (p := bs) (k := i) (i := k) (y := yb) (by rw [HBL.out]; exact hkb) (by rw [HRLEN.out]; omega) rfl)
                have HO := Lib.hid ho
                clear hs ho
                generalize addAt r (bs.take k) i yb = cur at c2' HX HO
                generalize cur.getD (i + k) 0 = x2 at c2' HX
                generalize bs.getD k 0 = x1 at c1' HX
                rw [F.mul_comm x1 yb] at HX
                have y1 : (0 : Int) ≤ (k : Int) := by omega
                have y2 : (k : Int) < (lb : Int) := by omega
                have y3 : (0 : Int) ≤ (i : Int) + (k : Int) := by omega
                have y4 : (i : Int) + (k : Int) < (i : Int) + (lb : Int) := by omega
                have y5 : ((i : Int) + (k : Int)).toNat = i + k := by omega
                have y6 : IntKind.i64.wrap ((i : Int) + (k : Int)) = (i : Int) + (k : Int) := IntWalk.i64_in _ ⟨by omega, by omega⟩
                go_wp2
                refine region_tail 18 (by kernel_rfl) (by kernel_rfl) ?_
                simp only [List.take_succ_cons, List.take_zero, List.drop_succ_cons, List.drop_zero]
                repeat (first
                  | still_step
                  | still_call (stillOf (rmul_any _ _ yb x1 _ rfl rfl)))
                refine wpStill_nil ?_
                go_wp2
                go_roundw
                case rel => exact ⟨k + 1, by omega, by go_num, by rw [← HX.out]; exact (HO.out.store (i + k) _ (bits_xor _ _)).drew, (HSP.out.setCell _ _).drew⟩
                case measure => simp only [intOf]; omega
              · obtain rfl : lb = k := by omega
                have e : bs.take lb = bs := List.take_of_length_le (by rw [HBL.out]; omega)
                rw [e] at ho
                have HO := Lib.hid ho
                have kc := ho.cap.1
                have Q3 := Lib.hid (Q2.out.spare hs hgrq.symm)
                have B3 := Lib.hid (B2.out.spare hs hgbr)
                have HB3 := Lib.hid (HB2.out.trans (hs.out hgrw))
                have hszk : w2.heap.size ≤ wr.heap.size := by have := hs.size; have := HSZ.out; omega
                have hlt3 := (Q3.out.form (by omega))
                clear ho hs e
                go_wp2_with (go_at_call 19; refine (rshort_any _ (i + lb) cr (addAt r bs i yb) _ HO.out.len (by exact HO.out.rd) (by omega) kc).mono ?_; rintro e w5 ⟨A5, c5, rfl, ho5, hb5⟩)
                have hn5 := HN.out.2
                rw [HRLEN.out] at hn5
                obtain ⟨gq', hgq', _, hltq⟩ := hlt3
                injection hgq' with hgq'; injection hgq' with hgq'; subst hgq'
                have hltb := (B3.out.form (by omega))
                obtain ⟨gb', hgb', _, hltb⟩ := hltb
                injection hgb' with hgb'; injection hgb' with hgb'; subst hgb'
                go_roundw
                case rel => exact ⟨_, _, _, A5, i + 1, c, _, c5, rfl, rfl, by omega, by omega, Own.less ho5 HB3.out.size, Q3.out.below hb5, B3.out.below hb5, bstep HB3.out (Nat.le_refl _) hb5, by have := hb5.size; have := hszk; omega, Lib.hid HN.out.1, fun h0 => by
                  obtain ⟨g5, e5, hge, _⟩ := ho5.form h0
                  exact ⟨g5, e5, by omega, .inr ⟨by omega, gq, rfl, by omega⟩⟩⟩
                case measure => exact hn5
      · go_wp2_with fail
        refine (rmul_any _ _ yy (F.inv bl) _ rfl rfl).mono ?_
        rintro e w' ⟨rfl, rfl⟩
        obtain ⟨yb, hyb⟩ : ∃ yb, yy * F.inv bl = yb := ⟨_, rfl⟩
        rw [hyb]
        have HYB := Lib.hid hyb.symm
        clear hyb
        go_wp2_with fail
        go_loopw [9] (fun v wq => v = .slice (some ⟨gq, 0, none⟩) nq cq ∧ wq = wo) (fun v _ => 0)
        case atStart => exact ⟨rfl, rfl⟩
        case round =>
          obtain ⟨rfl, rfl⟩ := hrel
          have hnq' : i < nq := by omega
          obtain ⟨gq', e', hgq1, hgq2⟩ := HOQ.out.form (by omega)
          injection e' with e'; injection e' with e'; subst e'
          have hor := HOR.out
          have hob := HOB.out
          have hbq := HBR.out
          have hgbq : gb ≠ gq := by omega
          have hgqw : w.heap.size ≤ gq := by omega
          have hszq := hszr
          have hoq := HOQ.out
          have HQ1 := Lib.hid (fun j => (rfl : q.getD j 0 = q.getD j 0))
          have cq1 := hoq.cell (j := i) (by omega)
          have fq1 := hoq.frozen i
          have HN := Lib.hid (rmid_step HM.out (by rw [HBL.out]; exact hz) (n := i) (by rw [hor.len, HBL.out]) (i := F.inv bl) (y := yb) (by rw [HBL.out, HBLL.out]; exact HI.out) (by rw [HBL.out, HYY.out, HYB.out]) HQ1.out (by rw [hoq.len]; omega))
          have hq2 := hoq.store i yb rfl
          have hr2 := hor.far (p := ⟨gq, i, none⟩) hgrq (.int .u16 ((yb : F).nat : Int))
          have hb2 := hob.far (p := ⟨gq, i, none⟩) hgbq (.int .u16 ((yb : F).nat : Int))
          have hB2 := hbq.setCell (p := ⟨gq, i, none⟩) hgqw (.int .u16 ((yb : F).nat : Int))
          have Q2 := Lib.hid hq2
          have R2' := Lib.hid hr2
          have B2 := Lib.hid hb2
          have HB2 := Lib.hid hB2
          have hrlen := hor.len
          have HRLEN := Lib.hid hrlen
          clear hq2 hr2 hb2 hB2 hor hoq hob hbq hrlen
          obtain ⟨wS, hwS⟩ : ∃ wS, wr.setCell ⟨gq, i, none⟩ (.int .u16 (yb.nat : Int)) = wS := ⟨_, rfl⟩
          rw [hwS] at Q2 R2' B2 HB2
          have HWS := Lib.hid hwS
          have HSZ := Lib.hid (show w2.heap.size ≤ wS.heap.size by rw [← hwS, World.size_setCell]; exact hszq)
          clear hwS
          have z2 : (0 : Int) ≤ (i : Int) := by omega
          have z3 : (i : Int) < (nq : Int) := by omega
          go_wp2_with fail
          rw [HWS.out]
          go_loopw [12] (fun v wk => ∃ k : Nat, k ≤ lb ∧ v = .int .i64 k ∧ Own wk w.heap.size (some ⟨gr, 0, none⟩) (i + lb) cr (addAt r (bs.take k) i yb) ∧ Spare gr wS wk) (fun v _ => lb - (intOf v).toNat)
          case atStart => exact ⟨0, by omega, rfl, by rw [addAt_start]; exact R2'.out, Spare.refl _ _⟩
          case round =>
            obtain ⟨k, hk, rfl, ho, hs⟩ := hrel
            have HSP := Lib.hid hs
            by_cases hkb : k < lb
            · have c1' := (B2.out.spare hs hgbr).cell hkb
              have c2' := ho.cell (j := i + k) (by omega)
              have hfz := ho.frozen (i + k)
              have HX := Lib.hid (addAt_next (to := r) (p := bs) (k := i) (i := k) (y := yb) (by rw [HBL.out]; exact hkb) (by rw [HRLEN.out]; omega) rfl)
              have HO := Lib.hid ho
              clear hs ho
              generalize addAt r (bs.take k) i yb = cur at c2' HX HO
              generalize cur.getD (i + k) 0 = x2 at c2' HX
              generalize bs.getD k 0 = x1 at c1' HX
              rw [F.mul_comm x1 yb] at HX
              have y1 : (0 : Int) ≤ (k : Int) := by omega
              have y2 : (k : Int) < (lb : Int) := by omega
              have y3 : (0 : Int) ≤ (i : Int) + (k : Int) := by omega
              have y4 : (i : Int) + (k : Int) < (i : Int) + (lb : Int) := by omega
              have y5 : ((i : Int) + (k : Int)).toNat = i + k := by omega
              have y6 : IntKind.i64.wrap ((i : Int) + (k : Int)) = (i : Int) + (k : Int) := IntWalk.i64_in _ ⟨by omega, by omega⟩
              go_wp2
              refine region_tail 18 (by kernel_rfl) (by kernel_rfl) ?_
              simp only [List.take_succ_cons, List.take_zero, List.drop_succ_cons, List.drop_zero]
              repeat (first
                | still_step
                | still_call (stillOf (rmul_any _ _ yb x1 _ rfl rfl)))
              refine wpStill_nil ?_
              go_wp2
              go_roundw
              case rel => exact ⟨k + 1, by omega, by go_num, by rw [← HX.out]; exact (HO.out.store (i + k) _ (bits_xor _ _)).drew, (HSP.out.setCell _ _).drew⟩
              case measure => simp only [intOf]; omega
            · obtain rfl : lb = k := by omega
              have e : bs.take lb = bs := List.take_of_length_le (by rw [HBL.out]; omega)
              rw [e] at ho
              have HO := Lib.hid ho
              have kc := ho.cap.1
              have Q3 := Lib.hid (Q2.out.spare hs hgrq.symm)
              have B3 := Lib.hid (B2.out.spare hs hgbr)
              have HB3 := Lib.hid (HB2.out.trans (hs.out hgrw))
              have hszk : w2.heap.size ≤ wr.heap.size := by have := hs.size; have := HSZ.out; omega
              have hlt3 := (Q3.out.form (by omega))
              clear ho hs e
              go_wp2_with (go_at_call 19; refine (rshort_any _ (i + lb) cr (addAt r bs i yb) _ HO.out.len (by exact HO.out.rd) (by omega) kc).mono ?_; rintro e w5 ⟨A5, c5, rfl, ho5, hb5⟩)
              have hn5 := HN.out.2
              rw [HRLEN.out] at hn5
              obtain ⟨gq', hgq', _, hltq⟩ := hlt3
              injection hgq' with hgq'; injection hgq' with hgq'; subst hgq'
              have hltb := (B3.out.form (by omega))
              obtain ⟨gb', hgb', _, hltb⟩ := hltb
              injection hgb' with hgb'; injection hgb' with hgb'; subst hgb'
              go_roundw
              case rel => exact ⟨_, _, _, A5, nq, cq, _, c5, rfl, rfl, by omega, hnq, Own.less ho5 HB3.out.size, Q3.out.below hb5, B3.out.below hb5, bstep HB3.out (Nat.le_refl _) hb5, by have := hb5.size; have := hszk; omega, Lib.hid HN.out.1, fun h0 => by
                obtain ⟨g5, e5, hge, _⟩ := ho5.form h0
                exact ⟨g5, e5, by omega, .inr ⟨by omega, gq, rfl, by omega⟩⟩⟩
              case measure => exact hn5
    · have hn2' : n < lb := by omega
      have HOR := Lib.hid hor
      have HOQ := Lib.hid hoq
      have HBR := Lib.hid hbr
      have kq := hoq.cap.1
      clear hor hoq hob hbr hdis
      go_wp2_with (go_at_call 19; refine (rshort_any Aq nq cq q _ HOQ.out.len (by exact HOQ.out.rd) (by omega) kq).mono ?_; rintro e w4 ⟨A4, c4, rfl, ho4, hb4⟩)
      go_ret3
      have hql := HOQ.out.len
      have hrl := HOR.out.len
      subst hrl
      exact ⟨A4, Ar', c4, cr, shortL q, r, rfl, Own.less ho4 HBR.out.size, HOR.out.below hb4, bstep HBR.out (Nat.le_refl _) hb4, HD.out q r HM.out hn2' (by rw [hql, H1.out]; exact hnq)⟩
end Go.Proofs.Ytneciddigglnmaa
