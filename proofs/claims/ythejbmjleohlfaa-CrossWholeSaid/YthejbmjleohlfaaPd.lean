/- The walk of the division of polynomials. -/
import Derived.Test.YthejbmjleohlfaaPx
namespace Go.Proofs.Ythejbmjleohlfaa
open Go.RowKit

theorem pv_set {l : List F} {i : Nat} (hi : i < l.length) (a x : F) : pv (l.set i a) x = pv l x + F.pow x i * (l.getD i 0 + a) := by
  have e : l.set i a = addAt l [l.getD i 0 + a] i 1 := by
    refine tab_ext (by rw [List.length_set]) fun j hj => ?_
    by_cases h : i = j
    · subst h
      rw [getD_set_eq _ hi, if_pos (Nat.le_refl _), Nat.sub_self]
      show a = l.getD i 0 + (l.getD i 0 + a) * 1
      rw [F.mul_one, F.add_cancel_left]
    · rw [getD_set_ne _ h]
      split
      · rw [getD_beyond (g := [l.getD i 0 + a]) (by simp; omega), F.zero_mul, F.add_zero]
      · rw [F.add_zero]
  rw [e, pv_addAt _ _ _ _ _ (by simp; omega), pv_single, F.mul_one]

/-- A quotient and a rest. -/
structure DivOf (a b q r : List F) : Prop where
  q_short : IsShort q
  r_short : IsShort r
  less : r.length < (shortL b).length
  q_length : q.length ≤ a.length
  value : ∀ x, pv a x = pv q x * pv b x + pv r x
/-- In the midst of the division: k symbols of the quotient are to come. -/
structure PDivMid (a b : List F) (k : Nat) (q r : List F) : Prop where
  value : ∀ x, pv r x + pv q x * pv b x = pv a x
  high : ∀ j, k + b.length - 1 ≤ j → r.getD j 0 = 0
  low : ∀ j, j < k → q.getD j 0 = 0
theorem pdivMid_start {a b : List F} {n : Nat} (hn : a.length + 1 ≤ n + b.length) : PDivMid a b n (List.replicate n 0) a :=
  ⟨fun x => by rw [pv_zeros, F.zero_mul, F.add_zero], fun j hj => getD_beyond (by omega), fun j _ => by rw [getD_replicate]⟩
theorem pdivMid_step {a b q r : List F} {k : Nat} (h : PDivMid a b (k + 1) q r) (hk : k < q.length) (hl : k + b.length ≤ r.length) (hb : 0 < b.length) {i y : F} (hi : b.getD (b.length - 1) 0 * i = 1) (hy : y = r.getD (k + b.length - 1) 0 * i) :
    PDivMid a b k (q.set k y) (addAt r b k y) := by
  refine ⟨fun x => ?_, fun j hj => ?_, fun j hj => ?_⟩
  · rw [pv_set hk, pv_addAt _ _ _ _ _ hl, h.low k (by omega), F.zero_add, ← h.value x, F.add_mul]
    have e : F.pow x k * y * pv b x = F.pow x k * (pv b x * y) := by ac_rfl
    rw [e]
    have e2 : ∀ u v t : F, u + t + (v + t) = u + v := fun u v t => by rw [F.add_comm v t, F.add_assoc, F.add_cancel_left]
    exact e2 _ _ _
  · rw [addAt_getD _ _ _ _ _ hl, if_pos (by omega)]
    by_cases e : j = k + b.length - 1
    · subst e
      rw [show k + b.length - 1 - k = b.length - 1 from by omega, hy]
      have e2 : b.getD (b.length - 1) 0 * (r.getD (k + b.length - 1) 0 * i) = r.getD (k + b.length - 1) 0 := by
        rw [F.mul_left_comm, hi, F.mul_one]
      rw [e2, F.add_self]
    · rw [h.high j (by omega), getD_beyond (g := b) (by omega), F.zero_mul, F.add_zero]
  · rw [getD_set_ne _ (by omega)]
    exact h.low j (by omega)
theorem short_less {r : List F} {n : Nat} (h : ∀ j, n ≤ j → r.getD j 0 = 0) : (shortL r).length ≤ n := by
  rcases Nat.lt_or_ge n (shortL r).length with hlt | hge
  · exfalso
    refine shortL_short r (by omega) ?_
    rw [shortL_getD, h _ (by omega)]
  · exact hge
theorem pdivMid_done {a b q r : List F} (h : PDivMid (shortL a) (shortL b) 0 q r) (hb : 0 < (shortL b).length) (hq : q.length ≤ a.length) : DivOf a b (shortL q) (shortL r) := by
  refine ⟨shortL_short _, shortL_short _, ?_, Nat.le_trans (shortL_length _) hq, fun x => ?_⟩
  · have := short_less (r := r) (n := (shortL b).length - 1) (fun j hj => h.high j (by omega))
    omega
  · rw [pv_short, pv_short, ← pv_short a, ← pv_short b, F.add_comm]
    exact (h.value x).symm

/-- Handed back: a quotient and a rest that the call made. -/
def RetDiv (w : World) (a b : List F) (e : Ending) (w' : World) : Prop := ∃ (A1 A2 : Option Addr) (c1 c2 : Nat) (q r : List F),
  e = .returned (.tuple #[.slice A1 q.length c1, .slice A2 r.length c2, .int .i64 0]) ∧ Own w' w.heap.size A1 q.length c1 q ∧ Own w' w.heap.size A2 r.length c2 r ∧ Below w.heap.size w w' ∧ DivOf a b q r

set_option maxRecDepth 100000 in
set_option maxHeartbeats 4000000 in
theorem div_bad (A1 A2 : Option Addr) (n1 n2 c1 c2 : Nat) (l1 l2 : List F) (w : World) (h1 : l1.length = n1) (h2 : l2.length = n2) (hr1 : Rd w w.heap.size A1 l1) (hr2 : Rd w w.heap.size A2 l2) (hn1 : n1 ≤ 60000) (hn2 : n2 ≤ 60000) (hc1 : n1 ≤ c1) (hc2 : n2 ≤ c2) (hz : shortL l2 = []) :
    Calls Try.prog 66 #[.slice A1 n1 c1, .slice A2 n2 c2] w fun e w' => e = .returned (.tuple #[.slice none 0 0, .slice none 0 0, .int .i64 1]) ∧ Below w.heap.size w w' := by
  have H1 := Lib.hid h1
  have H2 := Lib.hid h2
  have R1 := Lib.hid hr1
  have R2 := Lib.hid hr2
  have HZ := Lib.hid (show (shortL l2).length = 0 by rw [hz]; rfl)
  clear h1 h2 hr1 hr2 hz
  go_enter Try.func66, Try.ntmps66
  go_wp2_with (first
   | (go_at_call 68; refine (short_any A1 n1 c1 l1 _ H1.out R1.out (by omega) hc1).mono ?_; rintro e w1 ⟨Ar, cr, rfl, ho1, hb1⟩; clear R1)
   | (go_at_call 68; refine (short_any A2 n2 c2 l2 _ H2.out (by exact (R2.out.below hb1).more hb1.size) (by omega) hc2).mono ?_; rintro e w2 ⟨Ab, cb, rfl, ho2, hb2⟩; rw [HZ.out]))
  go_ret3
  exact ⟨rfl, bstep hb1 (Nat.le_refl _) hb2⟩

set_option maxRecDepth 100000 in
set_option maxHeartbeats 4000000 in
theorem div_ok (A1 A2 : Option Addr) (n1 n2 c1 c2 : Nat) (l1 l2 : List F) (w : World) (h1 : l1.length = n1) (h2 : l2.length = n2) (hr1 : Rd w w.heap.size A1 l1) (hr2 : Rd w w.heap.size A2 l2) (hn1 : n1 ≤ 60000) (hn2 : n2 ≤ 60000) (hc1 : n1 ≤ c1) (hc2 : n2 ≤ c2) (hz : 0 < (shortL l2).length) :
    Calls Try.prog 66 #[.slice A1 n1 c1, .slice A2 n2 c2] w (RetDiv w l1 l2) := by
  have H1 := Lib.hid h1
  have H2 := Lib.hid h2
  have R1 := Lib.hid hr1
  have R2 := Lib.hid hr2
  have b1 := shortL_length l1
  have b2 := shortL_length l2
  have s2 := Lib.hid (shortL_short l2 hz)
  have HD := Lib.hid (fun q r => pdivMid_done (a := l1) (b := l2) (q := q) (r := r))
  rw [h1] at b1
  rw [h2] at b2
  clear h1 h2 hr1 hr2
  go_enter Try.func66, Try.ntmps66
  go_wp2_with (first
   | (go_at_call 68; refine (short_any A1 n1 c1 l1 _ H1.out R1.out (by omega) hc1).mono ?_; rintro e w1 ⟨Ar, cr, rfl, ho1, hb1⟩; clear R1)
   | (go_at_call 68; refine (short_any A2 n2 c2 l2 _ H2.out (by exact (R2.out.below hb1).more hb1.size) (by omega) hc2).mono ?_; rintro e w2 ⟨Ab, cb, rfl, ho2, hb2⟩))
  generalize e1 : (shortL l1).length = lr at *
  generalize e2 : (shortL l2).length = lb at *
  generalize shortL l1 = rs at *
  generalize shortL l2 = bs at *
  have HRL := Lib.hid e1
  have HBL := Lib.hid e2
  clear e1 e2
  obtain ⟨gb, rfl, hgb1, hgb2⟩ := ho2.form hz
  have cb1 := ho2.cell (j := lb - 1) (by omega)
  have HI := Lib.hid (F.mul_inv s2.out)
  have hne : bs.getD (lb - 1) 0 ≠ 0 := s2.out
  have hdec : (!decide (bs.getD (lb - 1) 0 = 0)) = true := by rw [decide_eq_false hne]; rfl
  have HDEC := Lib.hid hdec
  clear hdec hne s2
  obtain ⟨bl, hbl⟩ : ∃ bl, bs.getD (lb - 1) 0 = bl := ⟨_, rfl⟩
  rw [hbl] at cb1 HI HDEC
  have HBLL := Lib.hid hbl
  clear hbl
  have HB := Lib.hid (bstep hb1 (Nat.le_refl _) hb2)
  have OR := Lib.hid (ho1.below hb2)
  have OB := Lib.hid ho2
  have hsz := hb1.size
  have hsz2 := hb2.size
  have HRF := Lib.hid (fun h => ho1.form h)
  clear ho1 ho2 hb1 hb2
  have q1 : (0 : Int) ≤ (lb : Int) - 1 := by omega
  have q2 : (lb : Int) - 1 < (lb : Int) := by omega
  have q3 : ((lb : Int) - 1).toNat = lb - 1 := by omega
  have q4 : IntKind.i64.wrap ((lb : Int) - 1) = (lb : Int) - 1 := IntWalk.i64_in _ ⟨by omega, by omega⟩
  have q5 : IntKind.i64.wrap ((lr : Int) - (lb : Int)) = (lr : Int) - (lb : Int) := IntWalk.i64_in _ ⟨by omega, by omega⟩
  have q6 : IntKind.i64.wrap ((lr : Int) - (lb : Int) + 1) = (lr : Int) - (lb : Int) + 1 := IntWalk.i64_in _ ⟨by omega, by omega⟩
  obtain ⟨nq, hnq⟩ : ∃ nq : Nat, nq = lr + 1 - lb := ⟨_, rfl⟩
  have hn1' : lr + 1 ≤ nq + lb := by omega
  have hn2' : 0 < nq → nq + lb = lr + 1 := by omega
  have hn3' : nq ≤ lr := by omega
  clear hnq
  go_wp2_with (first
    | (go_at_call 33; refine (new_any _).mono ?_; rintro e w' ⟨rfl, rfl⟩)
    | (go_at_call 56; refine (inv_any _ _ bl _ rfl).mono ?_; rintro e w' ⟨rfl, rfl⟩; rw [HDEC.out])
    | (at_make; refine wpList_mk _ rfl _ _ rfl w2.heap.size _ _ nq rfl rfl (by omega) (by omega) (by omega) (by simp) ?_; intro w3 hown hg))
  all_goals
    clear h
    have hb3 : Below w2.heap.size w2 w3 := (balloc w2 _).grown hg (by simp) (by simp)
    rw [World.size_alloc] at hown
    have hmid := pdivMid_start (a := rs) (b := bs) (n := nq) (by rw [HRL.out, HBL.out]; exact hn1')
    have HM := Lib.hid hmid
    have HQ := Lib.hid hown
    have OR3 := Lib.hid (OR.out.below hb3)
    have OB3 := Lib.hid (OB.out.below hb3)
    have HB3 := Lib.hid (bstep HB.out (Nat.le_refl _) hb3)
    clear hmid hown hg hb3 OR OB HB cb1 HDEC
    generalize List.replicate nq (0 : F) = qs at HM HQ
    go_loopw [10] (fun v wr => ∃ (k : Nat) (q r : List F), k ≤ nq ∧ v = .int .i64 ((k : Int) - 1) ∧ Own wr w.heap.size Ar lr cr r ∧ Own wr w2.heap.size (some ⟨w2.heap.size + 1, 0, none⟩) nq nq q ∧ Own wr w1.heap.size (some ⟨gb, 0, none⟩) lb cb bs ∧ Below w.heap.size w wr ∧ Hid (PDivMid rs bs k q r)) (fun v _ => (intOf v + 1).toNat)
    case atStart => exact ⟨nq, qs, rs, Nat.le_refl _, rfl, OR3.out, HQ.out, OB3.out, HB3.out, HM⟩
    case round =>
      obtain ⟨k, q, r, hk, rfl, ho1, ho2, ho3, hb, HM⟩ := hrel
      have O1 := Lib.hid ho1
      have O2 := Lib.hid ho2
      have O3 := Lib.hid ho3
      have HB := Lib.hid hb
      have O2f := Lib.hid ho2.len
      have HIL := Lib.hid (show bs.getD (bs.length - 1) 0 * F.inv bl = 1 by rw [HBL.out, HBLL.out]; exact HI.out)
      clear ho1 ho2 ho3 hb OR3 OB3 HB3 HQ
      by_cases hk0 : k = 0
      · subst hk0
        go_wp2_with (first
          | (go_at_call 68; refine (short_any _ nq nq q _ O2.out.len (by exact O2.out.rd) (by omega) (Nat.le_refl _)).mono ?_; rintro e w4 ⟨A4, c4, rfl, ho4, hb4⟩; clear O2)
          | (go_at_call 68; refine (short_any Ar lr cr r _ O1.out.len (by exact (O1.out.below hb4).rd) (by omega) O1.out.cap.1).mono ?_; rintro e w5 ⟨A5, c5, rfl, ho5, hb5⟩))
        have hq := O2f.out
        go_ret3
        exact ⟨A4, A5, c4, c5, shortL q, shortL r, rfl, Own.less (ho4.below hb5) HB.out.size, Own.less ho5 (Nat.le_trans HB.out.size hb4.size), bstep (bstep HB.out (Nat.le_refl _) hb4) (Nat.le_refl _) hb5, HD.out q r HM.out hz (by rw [hq, H1.out]; omega)⟩
      · obtain ⟨i, rfl⟩ : ∃ i, k = i + 1 := ⟨k - 1, by omega⟩
        obtain ⟨gr, rfl, hg1, hg2⟩ := HRF.out (by omega)
        have hnl := hn2' (by omega)
        have HN := Lib.hid (pdivMid_step HM.out (by rw [O2f.out]; omega) (by rw [O1.out.len, HBL.out]; omega) (by rw [HBL.out]; exact hz) (i := F.inv bl) (y := r.getD (i + lb - 1) 0 * F.inv bl) HIL.out (by rw [HBL.out]))
        have cr1 := O1.out.cell (j := i + lb - 1) (by omega)
        have cq1 := O2.out.cell (j := i) (by omega)
        have fq1 := O2.out.frozen i
        generalize r.getD (i + lb - 1) 0 = y at cr1 HN
        have hq2 := O2.out.store i (y * F.inv bl) rfl
        have hr2 := O1.out.far (p := ⟨w2.heap.size + 1, i, none⟩) (by show gr ≠ w2.heap.size + 1; omega) (.int .u16 ((y * F.inv bl : F).nat : Int))
        have hb2 := O3.out.far (p := ⟨w2.heap.size + 1, i, none⟩) (by show gb ≠ w2.heap.size + 1; omega) (.int .u16 ((y * F.inv bl : F).nat : Int))
        have hB2 := HB.out.setCell (p := ⟨w2.heap.size + 1, i, none⟩) (by show w.heap.size ≤ w2.heap.size + 1; omega) (.int .u16 ((y * F.inv bl : F).nat : Int))
        have eq2 := World.cell?_setCell_same' wr ⟨w2.heap.size + 1, i, none⟩ (.int .u16 ((y * F.inv bl : F).nat : Int)) (by rw [cq1]; rfl)
        have Q2 := Lib.hid hq2
        have R2' := Lib.hid hr2
        have B2 := Lib.hid hb2
        have HB2 := Lib.hid hB2
        clear hq2 hr2 hb2 hB2
        have z1 : (((i + 1 : Nat) : Int) - 1) = (i : Int) := by omega
        rw [z1]
        have z2 : (0 : Int) ≤ (i : Int) := by omega
        have z3 : (i : Int) < (nq : Int) := by omega
        have z4 : (0 : Int) ≤ (i : Int) + (lb : Int) - 1 := by omega
        have z5 : (i : Int) + (lb : Int) - 1 < (lr : Int) := by omega
        have z6 : ((i : Int) + (lb : Int) - 1).toNat = i + lb - 1 := by omega
        have z7 : IntKind.i64.wrap ((i : Int) + (lb : Int)) = (i : Int) + (lb : Int) := IntWalk.i64_in _ ⟨by omega, by omega⟩
        have z8 : IntKind.i64.wrap ((i : Int) + (lb : Int) - 1) = (i : Int) + (lb : Int) - 1 := IntWalk.i64_in _ ⟨by omega, by omega⟩
        go_wp2_with (first
          | (go_at_call 36; refine (mul_any _ _ _ y (F.inv bl) _ rfl rfl).mono ?_; rintro e w' ⟨rfl, rfl⟩)
          | (go_at_call 73; refine (into_any _ w.heap.size gr lr cr r bs (some ⟨gb, 0, none⟩) lb cb i (y * F.inv bl) _ R2'.out HBL.out (by exact fun _ => ⟨gb, 0, rfl, by omega, fun j hj => by rw [Nat.zero_add]; exact B2.out.cell (by rw [← HBL.out]; exact hj)⟩) (by omega) (by omega)).mono ?_; rintro e w' ⟨⟨v, rfl⟩, ho, hsp⟩))
        go_roundw
        case rel => exact ⟨i, _, _, by omega, by go_num, ho, Q2.out.spare hsp (by omega), B2.out.spare hsp (by omega), HB2.out.trans (hsp.out hg1), HN⟩
        case measure => simp only [intOf]; omega
end Go.Proofs.Ythejbmjleohlfaa
