/- The walk of the statement PolyTells: whatever is asked of polynomials is the document's. -/
import Derived.Test.YtneciddigglnmaaPr2
namespace Go.Proofs.Ytneciddigglnmaa
open Go.RowKit

/-- Handed back: a quotient and a rest that the call made, in blocks of their own. -/
def RetDiv2 (w : World) (a b : List F) (e : Ending) (w' : World) : Prop := ∃ (A1 A2 : Option Addr) (c1 c2 : Nat) (q r : List F),
  e = .returned (.tuple #[.slice A1 q.length c1, .slice A2 r.length c2, .int .i64 0]) ∧ Own w' w.heap.size A1 q.length c1 q ∧ Own w' w.heap.size A2 r.length c2 r ∧ Below w.heap.size w w' ∧ DivOf a b q r ∧
    (∀ g, A1 = some ⟨g, 0, none⟩ → A2 ≠ some ⟨g, 0, none⟩)
theorem Own.lt {w : World} {B n c g : Nat} {A : Option Addr} {l : List F} (h : Own w B A n c l) (e : A = some ⟨g, 0, none⟩) : B ≤ g ∧ g < w.heap.size := by
  rcases h.2.2 with ⟨hv, _⟩ | ⟨g', cap, cur, hv, hb, hg, _⟩
  · injection hv with hv; rw [e] at hv; cases hv
  · injection hv with hv; rw [e] at hv; injection hv with hv; injection hv with hv; subst hv
    refine ⟨hb, ?_⟩
    rcases Nat.lt_or_ge g w.heap.size with h | h
    · exact h
    · rw [Array.getElem?_eq_none h] at hg; cases hg

set_option maxRecDepth 100000 in
set_option maxHeartbeats 4000000 in
theorem div_ok2 (A1 A2 : Option Addr) (n1 n2 c1 c2 : Nat) (l1 l2 : List F) (w : World) (h1 : l1.length = n1) (h2 : l2.length = n2) (hr1 : Rd w w.heap.size A1 l1) (hr2 : Rd w w.heap.size A2 l2) (hn1 : n1 ≤ 60000) (hn2 : n2 ≤ 60000) (hc1 : n1 ≤ c1) (hc2 : n2 ≤ c2) (hz : 0 < (shortL l2).length) :
    Calls Try.prog 13 #[.slice A1 n1 c1, .slice A2 n2 c2] w (RetDiv2 w l1 l2) := by
  have H1 := Lib.hid h1
  have H2 := Lib.hid h2
  have R1 := Lib.hid hr1
  have R2 := Lib.hid hr2
  have b1 := shortL_length l1
  have b2 := shortL_length l2
  have s2 := Lib.hid (shortL_short l2 hz)
  have HD := Lib.hid (fun q r => divMid_done (a := l1) (b := l2) (q := q) (r := r))
  rw [h1] at b1
  rw [h2] at b2
  clear h1 h2 hr1 hr2
  go_enter Try.func13, Try.ntmps13
  go_wp2_with (first
   | (go_at_call 11; refine (short_any A1 n1 c1 l1 _ H1.out R1.out (by omega) hc1).mono ?_; rintro e w1 ⟨Ar, cr, rfl, ho1, hb1⟩; clear R1)
   | (go_at_call 11; refine (short_any A2 n2 c2 l2 _ H2.out (by exact (R2.out.below hb1).more hb1.size) (by omega) hc2).mono ?_; rintro e w2 ⟨Ab, cb, rfl, ho2, hb2⟩))
  generalize e1 : (shortL l1).length = lr at *
  generalize e2 : (shortL l2).length = lb at *
  generalize shortL l1 = rs at *
  generalize shortL l2 = bs at *
  have HRL := Lib.hid e1
  have HBL := Lib.hid e2
  clear e1 e2
  obtain ⟨gb, rfl, hgb1, hgb2⟩ := ho2.form hz
  have cb1 := ho2.cell (j := lb - 1) (by omega)
  have HI := Lib.hid (F.mul_inv s2.out)
  have hne : bs.getD (lb - 1) 0 ≠ 0 := s2.out
  have hdec : (!decide (bs.getD (lb - 1) 0 = 0)) = true := by rw [decide_eq_false hne]; rfl
  have HDEC := Lib.hid hdec
  clear hdec hne s2
  obtain ⟨bl, hbl⟩ : ∃ bl, bs.getD (lb - 1) 0 = bl := ⟨_, rfl⟩
  rw [hbl] at cb1 HI HDEC
  have HBLL := Lib.hid hbl
  clear hbl
  have HB := Lib.hid (bstep hb1 (Nat.le_refl _) hb2)
  have OR := Lib.hid (ho1.below hb2)
  have OB := Lib.hid ho2
  have hsz := hb1.size
  have hsz2 := hb2.size
  have HRF := Lib.hid (fun h => ho1.form h)
  clear ho1 ho2 hb1 hb2
  have q1 : (0 : Int) ≤ (lb : Int) - 1 := by omega
  have q2 : (lb : Int) - 1 < (lb : Int) := by omega
  have q3 : ((lb : Int) - 1).toNat = lb - 1 := by omega
  have q4 : IntKind.i64.wrap ((lb : Int) - 1) = (lb : Int) - 1 := IntWalk.i64_in _ ⟨by omega, by omega⟩
  have q5 : IntKind.i64.wrap ((lr : Int) - (lb : Int)) = (lr : Int) - (lb : Int) := IntWalk.i64_in _ ⟨by omega, by omega⟩
  have q6 : IntKind.i64.wrap ((lr : Int) - (lb : Int) + 1) = (lr : Int) - (lb : Int) + 1 := IntWalk.i64_in _ ⟨by omega, by omega⟩
  obtain ⟨nq, hnq⟩ : ∃ nq : Nat, nq = lr + 1 - lb := ⟨_, rfl⟩
  have hn1' : lr + 1 ≤ nq + lb := by omega
  have hn2' : 0 < nq → nq + lb = lr + 1 := by omega
  have hn3' : nq ≤ lr := by omega
  clear hnq
  go_wp2_with (first
    | (go_at_call 29; refine (new_any _).mono ?_; rintro e w' ⟨rfl, rfl⟩)
    | (go_at_call 33; refine (inv_any _ _ bl _ rfl).mono ?_; rintro e w' ⟨rfl, rfl⟩; rw [HDEC.out])
    | (at_make; refine wpList_mk _ rfl _ _ rfl w2.heap.size _ _ nq rfl rfl (by omega) (by omega) (by omega) (by simp) ?_; intro w3 hown hg))
  all_goals
    clear h
    have hb3 : Below w2.heap.size w2 w3 := (balloc w2 _).grown hg (by simp) (by simp)
    rw [World.size_alloc] at hown
    have hmid := divMid_start (a := rs) (b := bs) (n := nq) (by rw [HRL.out, HBL.out]; exact hn1')
    have HM := Lib.hid hmid
    have HQ := Lib.hid hown
    have OR3 := Lib.hid (OR.out.below hb3)
    have OB3 := Lib.hid (OB.out.below hb3)
    have HB3 := Lib.hid (bstep HB.out (Nat.le_refl _) hb3)
    clear hmid hown hg hb3 OR OB HB cb1 HDEC
    generalize List.replicate nq (0 : F) = qs at HM HQ
    go_loopw [10] (fun v wr => ∃ (k : Nat) (q r : List F), k ≤ nq ∧ v = .int .i64 ((k : Int) - 1) ∧ Own wr w.heap.size Ar lr cr r ∧ Own wr w2.heap.size (some ⟨w2.heap.size + 1, 0, none⟩) nq nq q ∧ Own wr w1.heap.size (some ⟨gb, 0, none⟩) lb cb bs ∧ Below w.heap.size w wr ∧ Hid (DivMid rs bs k q r)) (fun v _ => (intOf v + 1).toNat)
    case atStart => exact ⟨nq, qs, rs, Nat.le_refl _, rfl, OR3.out, HQ.out, OB3.out, HB3.out, HM⟩
    case round =>
      obtain ⟨k, q, r, hk, rfl, ho1, ho2, ho3, hb, HM⟩ := hrel
      have O1 := Lib.hid ho1
      have O2 := Lib.hid ho2
      have O3 := Lib.hid ho3
      have HB := Lib.hid hb
      have O2f := Lib.hid ho2.len
      have HIL := Lib.hid (show bs.getD (bs.length - 1) 0 * F.inv bl = 1 by rw [HBL.out, HBLL.out]; exact HI.out)
      clear ho1 ho2 ho3 hb OR3 OB3 HB3 HQ
      by_cases hk0 : k = 0
      · subst hk0
        go_wp2_with (first
          | (go_at_call 11; refine (short_any _ nq nq q _ O2.out.len (by exact O2.out.rd) (by omega) (Nat.le_refl _)).mono ?_; rintro e w4 ⟨A4, c4, rfl, ho4, hb4⟩; clear O2)
          | (go_at_call 11; refine (short_any Ar lr cr r _ O1.out.len (by exact (O1.out.below hb4).rd) (by omega) O1.out.cap.1).mono ?_; rintro e w5 ⟨A5, c5, rfl, ho5, hb5⟩))
        have hq := O2f.out
        go_ret3
        exact ⟨A4, A5, c4, c5, shortL q, shortL r, rfl, Own.less (ho4.below hb5) HB.out.size, Own.less ho5 (Nat.le_trans HB.out.size hb4.size), bstep (bstep HB.out (Nat.le_refl _) hb4) (Nat.le_refl _) hb5, HD.out q r HM.out hz (by rw [hq, H1.out]; omega), fun g e1 e2 => by
          have f4 := ho4.lt e1
          have f5 := ho5.lt e2
          omega⟩
      · obtain ⟨i, rfl⟩ : ∃ i, k = i + 1 := ⟨k - 1, by omega⟩
        obtain ⟨gr, rfl, hg1, hg2⟩ := HRF.out (by omega)
        have hnl := hn2' (by omega)
        have HN := Lib.hid (divMid_step HM.out (by rw [O2f.out]; omega) (by rw [O1.out.len, HBL.out]; omega) (by rw [HBL.out]; exact hz) (i := F.inv bl) (y := r.getD (i + lb - 1) 0 * F.inv bl) HIL.out (by rw [HBL.out]))
        have cr1 := O1.out.cell (j := i + lb - 1) (by omega)
        have cq1 := O2.out.cell (j := i) (by omega)
        have fq1 := O2.out.frozen i
        generalize r.getD (i + lb - 1) 0 = y at cr1 HN
        have hq2 := O2.out.store i (y * F.inv bl) rfl
        have hr2 := O1.out.far (p := ⟨w2.heap.size + 1, i, none⟩) (by show gr ≠ w2.heap.size + 1; omega) (.int .u16 ((y * F.inv bl : F).nat : Int))
        have hb2 := O3.out.far (p := ⟨w2.heap.size + 1, i, none⟩) (by show gb ≠ w2.heap.size + 1; omega) (.int .u16 ((y * F.inv bl : F).nat : Int))
        have hB2 := HB.out.setCell (p := ⟨w2.heap.size + 1, i, none⟩) (by show w.heap.size ≤ w2.heap.size + 1; omega) (.int .u16 ((y * F.inv bl : F).nat : Int))
        have eq2 := World.cell?_setCell_same' wr ⟨w2.heap.size + 1, i, none⟩ (.int .u16 ((y * F.inv bl : F).nat : Int)) (by rw [cq1]; rfl)
        have Q2 := Lib.hid hq2
        have R2' := Lib.hid hr2
        have B2 := Lib.hid hb2
        have HB2 := Lib.hid hB2
        clear hq2 hr2 hb2 hB2
        have z1 : (((i + 1 : Nat) : Int) - 1) = (i : Int) := by omega
        rw [z1]
        have z2 : (0 : Int) ≤ (i : Int) := by omega
        have z3 : (i : Int) < (nq : Int) := by omega
        have z4 : (0 : Int) ≤ (i : Int) + (lb : Int) - 1 := by omega
        have z5 : (i : Int) + (lb : Int) - 1 < (lr : Int) := by omega
        have z6 : ((i : Int) + (lb : Int) - 1).toNat = i + lb - 1 := by omega
        have z7 : IntKind.i64.wrap ((i : Int) + (lb : Int)) = (i : Int) + (lb : Int) := IntWalk.i64_in _ ⟨by omega, by omega⟩
        have z8 : IntKind.i64.wrap ((i : Int) + (lb : Int) - 1) = (i : Int) + (lb : Int) - 1 := IntWalk.i64_in _ ⟨by omega, by omega⟩
        go_wp2_with (first
          | (go_at_call 32; refine (mul_any _ _ _ y (F.inv bl) _ rfl rfl).mono ?_; rintro e w' ⟨rfl, rfl⟩)
          | (go_at_call 34; refine (into_any _ w.heap.size gr lr cr r bs (some ⟨gb, 0, none⟩) lb cb i (y * F.inv bl) _ R2'.out HBL.out (by exact fun _ => ⟨gb, 0, rfl, by omega, fun j hj => by rw [Nat.zero_add]; exact B2.out.cell (by rw [← HBL.out]; exact hj)⟩) (by omega) (by omega)).mono ?_; rintro e w' ⟨⟨v, rfl⟩, ho, hsp⟩))
        go_roundw
        case rel => exact ⟨i, _, _, by omega, by go_num, ho, Q2.out.spare hsp (by omega), B2.out.spare hsp (by omega), HB2.out.trans (hsp.out hg1), HN⟩
        case measure => simp only [intOf]; omega
set_option maxRecDepth 100000 in
set_option maxHeartbeats 4000000 in
theorem spoil2 (A1 A2 : Option Addr) (n1 n2 c1 c2 B : Nat) (l1 l2 : List F) (w : World) (h1 : Own w B A1 n1 c1 l1) (h2 : l2.length = n2) (hr2 : Rd w w.heap.size A2 l2) (hB : B ≤ w.heap.size) (hn1 : n1 ≤ 60000) :
    Calls Try.prog 18 #[.slice A1 n1 c1, .slice A2 n2 c2] w fun e w' => e = .returned (.bool (decide (l1 = l2))) ∧ Below B w w' ∧ ∀ k, k < w.heap.size → A1 ≠ some ⟨k, 0, none⟩ → w'.heap[k]? = w.heap[k]? := by
  have H1 := Lib.hid h1
  have H2 := Lib.hid h2
  have R2 := Lib.hid hr2
  clear h1 h2 hr2
  go_enter Try.func18, Try.ntmps18
  go_wp2_with (go_at_call 15; refine (same_any A1 A2 n1 c1 n2 c2 _ _ l1 l2 _ H1.out.len H2.out (by exact H1.out.rd) (by exact R2.out) (Nat.le_refl _) (Nat.le_refl _) (by unfold maxLen; omega)).mono ?_; rintro e w1 ⟨rfl, hb⟩)
  have O1 := Lib.hid (H1.out.below hb)
  have hbB := hb.mono hB
  have HH := Lib.hid (fun k (hk : k < w.heap.size) => hb.block k hk)
  clear hb
  go_loopw [6] (fun j wr => ∃ (k : Nat) (l : List F), k ≤ n1 ∧ j = .int .i64 k ∧ Own wr B A1 n1 c1 l ∧ Below B w wr ∧ Hid (∀ k, k < w.heap.size → A1 ≠ some ⟨k, 0, none⟩ → wr.heap[k]? = w.heap[k]?)) (fun j _ => n1 - (intOf j).toNat)
  case atStart => exact ⟨0, l1, by omega, rfl, O1.out, hbB, Lib.hid fun k hk _ => HH.out k hk⟩
  case round =>
    obtain ⟨k, l, hk, rfl, ho, hb, HT⟩ := hrel
    by_cases hkn : k < n1
    · obtain ⟨g, rfl, hg, _⟩ := ho.form (by omega)
      have cc := ho.cell hkn
      have hf := ho.frozen k
      have q2 : (k : Int) < (n1 : Int) := by omega
      have HO := Lib.hid ho
      clear ho
      generalize l.getD k 0 = y at cc
      go_wp2
      go_roundw
      case rel => exact ⟨k + 1, _, by omega, by go_num, HO.out.store k (F.ofNat 777) (by rfl), hb.setCell (p := ⟨g, k, none⟩) hg _, Lib.hid fun j hj hne => (Below.heap_setCell wr ⟨g, k, none⟩ _ j (fun e => hne (by rw [e]))).trans (HT.out j hj hne)⟩
      case measure => simp only [intOf]; omega
    · obtain rfl : k = n1 := by omega
      go_wp2
      go_ret
      exact ⟨rfl, hb, HT.out⟩

theorem Own.kept {w w' : World} {B n c : Nat} {A : Option Addr} {l : List F} (h : Own w B A n c l) (hk : ∀ g, A = some ⟨g, 0, none⟩ → w'.heap[g]? = w.heap[g]?) : Own w' B A n c l := by
  refine ⟨h.1, h.2.1, ?_⟩
  rcases h.2.2 with h2 | ⟨g2, cap, cur, hv, hb, h2, h3⟩
  · exact .inl h2
  · have hv2 := hv
    injection hv2 with e
    exact .inr ⟨g2, cap, cur, hv, hb, by rw [hk g2 e]; exact h2, h3⟩

set_option maxRecDepth 100000 in
set_option maxHeartbeats 8000000 in
theorem tells_walk (A1 A2 : Option Addr) (n1 n2 c1 c2 : Nat) (l1 l2 : List F) (x : F) (w : World) (h1 : l1.length = n1) (h2 : l2.length = n2) (hr1 : Rd w w.heap.size A1 l1) (hr2 : Rd w w.heap.size A2 l2) (hc1 : n1 ≤ c1) (hc2 : n2 ≤ c2) (_hm1 : n1 ≤ 9223372036854775807) (_hm2 : n2 ≤ 9223372036854775807) :
    Calls Try.prog 5 #[.slice A1 n1 c1, .slice A2 n2 c2, .int .u16 x.nat] w fun e w' => e = .returned (.bool true) ∧ Below w.heap.size w w' := by
  have H1 := Lib.hid h1
  have H2 := Lib.hid h2
  have R1 := Lib.hid hr1
  have R2 := Lib.hid hr2
  clear h1 h2 hr1 hr2
  go_enter Try.func5, Try.ntmps5
  by_cases hbig : n1 ≤ 100 ∧ n2 ≤ 100
  case neg =>
    have t1 : (decide ((100 : Int) < (n1 : Int)) || decide ((100 : Int) < (n2 : Int))) = true := by
      rw [Bool.or_eq_true, decide_eq_true_iff, decide_eq_true_iff]; omega
    clear hbig
    go_wp2_with (go_at_call 10; refine (awake_any _).mono ?_; rintro e w' ⟨rfl, hbn⟩)
    all_goals first | (go_ret; exact ⟨rfl, hbn⟩) | skip
  obtain ⟨m1, m2⟩ := hbig
  have G1 : Hid True := Lib.hid trivial
  go_wp2_with (first
    | (at_builtin; have G0 := G1; refine wpList_ext _ rfl _ _ rfl w.heap.size _ 0 0 [] rfl (Own.lit w w.heap.size [] _ (Nat.le_refl _) (by decide) rfl) A1 n1 c1 w.heap.size l1 rfl H1.out (by exact R1.out.below (balloc _ _)) (by omega) (by simp) ?_; intro Ac cc w1 hownc hbc hgc; clear G0 G1)
    | (at_builtin; refine wpList_ext _ rfl _ _ rfl w1.heap.size _ 0 0 [] rfl (Own.lit w1 w1.heap.size [] _ (Nat.le_refl _) (by decide) rfl) A2 n2 c2 w.heap.size l2 rfl H2.out (by exact (R2.out.below ((balloc w _).trans hbc)).below ((balloc w1 _).mono (Nat.le_trans (by simp) hbc.size))) (by omega) (by simp) ?_; intro Ad cd w2 hownd hbd hgd))
  rw [Nat.zero_add, List.nil_append] at hownc hownd
  have hb1 := (balloc w (.cells #[] 25)).trans hbc
  have hb2 := (balloc w1 (.cells #[] 25)).trans hbd
  have HW := Lib.hid (bstep hb1 (Nat.le_refl _) hb2)
  have RA := Lib.hid ((R1.out.below HW.out).more HW.out.size)
  have RB := Lib.hid ((R2.out.below HW.out).more HW.out.size)
  have RC := Lib.hid (hownc.below hb2).rd
  have RD := Lib.hid hownd.rd
  have kc := hownc.cap.1
  have kd := hownd.cap.1
  have KC := Lib.hid hownc.cap.2
  clear hownc hownd hbc hbd hgc hgd hb1 hb2 R1 R2
  go_loopw [9] (fun v wr => ∃ k : Nat, k ≤ 2 ∧ v = .int .i64 k ∧ Below w2.heap.size w2 wr) (fun v _ => 2 - (intOf v).toNat)
  case atStart => exact ⟨0, by omega, rfl, Below.refl _ _⟩
  case round =>
    obtain ⟨wB, rfl⟩ : ∃ wB, wB = wr := ⟨_, rfl⟩
    obtain ⟨k, hk, rfl, hb⟩ := hrel
    have HB := Lib.hid hb
    have hBsz := hb.size
    clear hb
    by_cases hk2 : k < 2
    · by_cases hz : 0 < (shortL l2).length
      · have HZ := Lib.hid hz
        clear hz
        go_wp2_with fail
        refine (div_ok2 Ac Ad n1 n2 cc cd l1 l2 _ H1.out H2.out (by exact (RC.out.below HB.out).more HB.out.size) (by exact (RD.out.below HB.out).more HB.out.size) (by omega) (by omega) kc kd HZ.out).mono ?_
        rintro e wd ⟨Aq, Ar, cq, cr, q, r, rfl, hm1, hm2, hb, hd, hne⟩
        replace HB := Lib.hid (bstep HB.out (Nat.le_refl _) hb)
        have hsz1 := hb.size
        have hql := hd.q_length
        have hrl := hd.less
        have hsl := shortL_length l2
        rw [H1.out] at hql
        rw [H2.out] at hsl
        obtain ⟨nq, hnq⟩ : ∃ n, n = q.length := ⟨_, rfl⟩
        obtain ⟨nr, hnr⟩ : ∃ n, n = r.length := ⟨_, rfl⟩
        rw [← hnq] at hm1 hql
        rw [← hnr] at hm2 hrl
        rw [← hnq, ← hnr]
        have hr2 : nr ≤ n2 := by omega
        clear hrl hsl hb
        go_wp2_with fail
        refine (rdiv_ok A1 A2 n1 n2 c1 c2 l1 l2 _ H1.out H2.out (by exact (RA.out.below HB.out).more HB.out.size) (by exact (RB.out.below HB.out).more HB.out.size) (by omega) (by omega) hc1 hc2 HZ.out).mono ?_
        rintro e wD ⟨As, At, cs, ct, s, t, rfl, hm3, hm4, hb, hd2⟩
        obtain ⟨rfl, rfl⟩ := div_unique hd hd2 (by rw [H1.out]; omega) (by rw [H2.out]; omega)
        replace HB := Lib.hid (bstep HB.out (Nat.le_refl _) hb)
        rw [← hnq] at hm3 ⊢
        rw [← hnr] at hm4 ⊢
        have OQ := Lib.hid (hm1.below hb)
        have OR := Lib.hid (hm2.below hb)
        have OS := Lib.hid hm3
        have OT := Lib.hid hm4
        have HS := Lib.hid hnq.symm
        have HT := Lib.hid hnr.symm
        have HNE := Lib.hid (fun g (e : Ar = some ⟨g, 0, none⟩) (e2 : Aq = some ⟨g, 0, none⟩) => hne g e2 e)
        have HNT := Lib.hid (show ∀ g, At = some ⟨g, 0, none⟩ → Aq ≠ some ⟨g, 0, none⟩ from fun g e e2 => by
          have f1 := hm4.lt e
          have f2 := hm1.lt e2
          omega)
        have hbD : wB.heap.size ≤ wD.heap.size := Nat.le_trans hsz1 hb.size
        have HD := Lib.hid (Below.refl wD.heap.size wD)
        clear hm1 hm2 hm3 hm4 hb hd hd2 hne hnq hnr
        go_wp2_with fail
        refine (short_any Ac n1 cc l1 _ H1.out (by exact (RC.out.below HB.out).more HB.out.size) (by omega) kc).mono ?_
        rintro e w21 ⟨Ax, cx, rfl, hmx, hb⟩
        have hsx := HB.out.size
        have HBx := HB
        replace HB := Lib.hid (bstep HB.out (Nat.le_refl _) hb)
        have hblx := Lib.hid hb
        obtain ⟨nx, hnx⟩ : ∃ n, n = List.length (shortL l1) := ⟨_, rfl⟩
        rw [← hnx] at hmx ⊢
        have Hx := Lib.hid hnx.symm
        have bdx : nx ≤ n1 := by rw [hnx, ← H1.out]; exact shortL_length _
        have Ox := Lib.hid hmx
        clear hmx hb hnx
        go_wp2_with fail
        refine (rshort_any A1 n1 c1 l1 _ H1.out (by exact (RA.out.below HB.out).more HB.out.size) (by omega) hc1).mono ?_
        rintro e w22 ⟨Ay, cy, rfl, hmy, hb⟩
        have hsy := HB.out.size
        have HBy := HB
        replace HB := Lib.hid (bstep HB.out (Nat.le_refl _) hb)
        have hbly := Lib.hid hb
        obtain ⟨ny, hny⟩ : ∃ n, n = List.length (shortL l1) := ⟨_, rfl⟩
        rw [← hny] at hmy ⊢
        have Hy := Lib.hid hny.symm
        have bdy : ny ≤ n1 := by rw [hny, ← H1.out]; exact shortL_length _
        have Oy := Lib.hid hmy
        clear hmy hb hny
        have OX2 := Lib.hid (Ox.out.below hbly.out)
        go_wp2_with fail
        refine (spoil2 Ax Ay nx ny cx cy wD.heap.size (shortL l1) (shortL l1) _ OX2.out Hy.out (by exact Oy.out.rd) (Nat.le_trans hblx.out.size hbly.out.size) (by omega)).mono ?_
        rintro e w23 ⟨rfl, hb, _⟩
        rw [decide_eq_true rfl]
        replace HB := Lib.hid (HB.out.trans (hb.mono hsx))
        replace HD := Lib.hid (HD.out.trans (((hblx.out.mono (HD.out.size)).trans (hbly.out.mono (Nat.le_trans HD.out.size hblx.out.size))).trans (hb.mono HD.out.size)))
        clear hb HBx HBy hblx hbly OX2 Ox Oy Hx Hy hsx hsy bdx bdy
        go_wp2_with fail
        refine (padd_any Ac Ad n1 n2 cc cd l1 l2 _ H1.out H2.out (by exact (RC.out.below HB.out).more HB.out.size) (by exact (RD.out.below HB.out).more HB.out.size) (by omega) (by omega)).mono ?_
        rintro e w24 ⟨Ax, cx, rfl, hmx, hb⟩
        have hsx := HB.out.size
        have HBx := HB
        replace HB := Lib.hid (bstep HB.out (Nat.le_refl _) hb)
        have hblx := Lib.hid hb
        obtain ⟨nx, hnx⟩ : ∃ n, n = List.length (addL l1 l2) := ⟨_, rfl⟩
        rw [← hnx] at hmx ⊢
        have Hx := Lib.hid hnx.symm
        have bdx : nx ≤ max n1 n2 := by rw [hnx, ← H1.out, ← H2.out]; exact addL_length _ _
        have Ox := Lib.hid hmx
        clear hmx hb hnx
        go_wp2_with fail
        refine (radd_any A1 A2 n1 n2 c1 c2 l1 l2 _ H1.out H2.out (by exact (RA.out.below HB.out).more HB.out.size) (by exact (RB.out.below HB.out).more HB.out.size) (by omega) (by omega)).mono ?_
        rintro e w25 ⟨Ay, cy, rfl, hmy, hb⟩
        have hsy := HB.out.size
        have HBy := HB
        replace HB := Lib.hid (bstep HB.out (Nat.le_refl _) hb)
        have hbly := Lib.hid hb
        obtain ⟨ny, hny⟩ : ∃ n, n = List.length (addL l1 l2) := ⟨_, rfl⟩
        rw [← hny] at hmy ⊢
        have Hy := Lib.hid hny.symm
        have bdy : ny ≤ max n1 n2 := by rw [hny, ← H1.out, ← H2.out]; exact addL_length _ _
        have Oy := Lib.hid hmy
        clear hmy hb hny
        have OX2 := Lib.hid (Ox.out.below hbly.out)
        go_wp2_with fail
        refine (spoil2 Ax Ay nx ny cx cy w23.heap.size (addL l1 l2) (addL l1 l2) _ OX2.out Hy.out (by exact Oy.out.rd) (Nat.le_trans hblx.out.size hbly.out.size) (by omega)).mono ?_
        rintro e w26 ⟨rfl, hb, _⟩
        rw [decide_eq_true rfl]
        replace HB := Lib.hid (HB.out.trans (hb.mono hsx))
        replace HD := Lib.hid (HD.out.trans (((hblx.out.mono (HD.out.size)).trans (hbly.out.mono (Nat.le_trans HD.out.size hblx.out.size))).trans (hb.mono HD.out.size)))
        clear hb HBx HBy hblx hbly OX2 Ox Oy Hx Hy hsx hsy bdx bdy
        go_wp2_with fail
        refine (pmul_any Ac Ad n1 n2 cc cd l1 l2 _ H1.out H2.out (by exact (RC.out.below HB.out).more HB.out.size) (by exact (RD.out.below HB.out).more HB.out.size) (by omega)).mono ?_
        rintro e w27 ⟨Ax, cx, rfl, hmx, hb⟩
        have hsx := HB.out.size
        have HBx := HB
        replace HB := Lib.hid (bstep HB.out (Nat.le_refl _) hb)
        have hblx := Lib.hid hb
        obtain ⟨nx, hnx⟩ : ∃ n, n = List.length (mulL l1 l2) := ⟨_, rfl⟩
        rw [← hnx] at hmx ⊢
        have Hx := Lib.hid hnx.symm
        have bdx : nx ≤ n1 + n2 := by rw [hnx, ← H1.out, ← H2.out]; exact mulL_length _ _
        have Ox := Lib.hid hmx
        clear hmx hb hnx
        go_wp2_with fail
        refine (rpmul_any A1 A2 n1 n2 c1 c2 l1 l2 _ H1.out H2.out (by exact (RA.out.below HB.out).more HB.out.size) (by exact (RB.out.below HB.out).more HB.out.size) (by omega)).mono ?_
        rintro e w28 ⟨Ay, cy, rfl, hmy, hb⟩
        have hsy := HB.out.size
        have HBy := HB
        replace HB := Lib.hid (bstep HB.out (Nat.le_refl _) hb)
        have hbly := Lib.hid hb
        obtain ⟨ny, hny⟩ : ∃ n, n = List.length (mulL l1 l2) := ⟨_, rfl⟩
        rw [← hny] at hmy ⊢
        have Hy := Lib.hid hny.symm
        have bdy : ny ≤ n1 + n2 := by rw [hny, ← H1.out, ← H2.out]; exact mulL_length _ _
        have Oy := Lib.hid hmy
        clear hmy hb hny
        have OX2 := Lib.hid (Ox.out.below hbly.out)
        go_wp2_with fail
        refine (spoil2 Ax Ay nx ny cx cy w26.heap.size (mulL l1 l2) (mulL l1 l2) _ OX2.out Hy.out (by exact Oy.out.rd) (Nat.le_trans hblx.out.size hbly.out.size) (by omega)).mono ?_
        rintro e w29 ⟨rfl, hb, _⟩
        rw [decide_eq_true rfl]
        replace HB := Lib.hid (HB.out.trans (hb.mono hsx))
        replace HD := Lib.hid (HD.out.trans (((hblx.out.mono (HD.out.size)).trans (hbly.out.mono (Nat.le_trans HD.out.size hblx.out.size))).trans (hb.mono HD.out.size)))
        clear hb HBx HBy hblx hbly OX2 Ox Oy Hx Hy hsx hsy bdx bdy
        go_wp2_with fail
        have OQ2 := Lib.hid (OQ.out.below HD.out)
        have OR2 := Lib.hid (OR.out.below HD.out)
        have RS2 := Lib.hid ((OS.out.below HD.out).rd)
        have OT2 := Lib.hid (OT.out.below HD.out)
        refine (spoil2 Aq As nq nq cq cs wB.heap.size (q) (q) _ OQ2.out HS.out (by exact RS2.out) (Nat.le_trans hbD (HD.out.size)) (by omega)).mono ?_
        rintro e w60 ⟨rfl, hb, hk⟩
        rw [decide_eq_true rfl]
        replace HB := Lib.hid (HB.out.trans (hb.mono hBsz))
        have OR3 := Lib.hid (OR2.out.kept fun g e => hk g (OR2.out.lt e).2 (HNE.out g e))
        have OT3 := Lib.hid (OT2.out.kept fun g e => hk g (OT2.out.lt e).2 (HNT.out g e))
        have hszk := hb.size
        clear hb hk OQ2 OR2 RS2 OT2
        go_wp2_with fail
        refine (spoil2 Ar At nr nr cr ct wB.heap.size (r) (r) _ OR3.out HT.out (by exact OT3.out.rd) (Nat.le_trans hbD (Nat.le_trans HD.out.size hszk)) (by omega)).mono ?_
        rintro e w61 ⟨rfl, hb, _⟩
        rw [decide_eq_true rfl]
        replace HB := Lib.hid (HB.out.trans (hb.mono hBsz))
        clear hb OR3 OT3 HD
        go_wp2_with fail
        refine (at_any Ac n1 cc l1 x _ H1.out (by omega) (by exact (RC.out.below HB.out).more HB.out.size)).mono ?_
        rintro e w62 ⟨rfl, hb⟩
        replace HB := Lib.hid (bstep HB.out (Nat.le_refl _) hb)
        clear hb
        go_wp2_with fail
        refine (rat_any A1 n1 c1 l1 x _ H1.out (by exact (RA.out.below HB.out).more HB.out.size) (by omega)).mono ?_
        rintro e w63 ⟨rfl, hb⟩
        replace HB := Lib.hid (bstep HB.out (Nat.le_refl _) hb)
        clear hb
        go_wp2_with fail
        refine (slope_any Ac n1 cc l1 _ H1.out (by exact (RC.out.below HB.out).more HB.out.size) (by omega) kc KC.out).mono ?_
        rintro e w30 ⟨Ax, cx, rfl, hmx, hb⟩
        have hsx := HB.out.size
        have HBx := HB
        replace HB := Lib.hid (bstep HB.out (Nat.le_refl _) hb)
        have hblx := Lib.hid hb
        obtain ⟨nx, hnx⟩ : ∃ n, n = List.length (slopeL l1) := ⟨_, rfl⟩
        rw [← hnx] at hmx ⊢
        have Hx := Lib.hid hnx.symm
        have bdx : nx ≤ n1 - 1 := by rw [hnx, ← H1.out]; exact slopeL_length _
        have Ox := Lib.hid hmx
        clear hmx hb hnx
        go_wp2_with fail
        refine (rslope_any A1 n1 c1 l1 _ H1.out (by exact (RA.out.below HB.out).more HB.out.size) (by omega)).mono ?_
        rintro e w31 ⟨Ay, cy, rfl, hmy, hb⟩
        have hsy := HB.out.size
        have HBy := HB
        replace HB := Lib.hid (bstep HB.out (Nat.le_refl _) hb)
        have hbly := Lib.hid hb
        obtain ⟨ny, hny⟩ : ∃ n, n = List.length (slopeL l1) := ⟨_, rfl⟩
        rw [← hny] at hmy ⊢
        have Hy := Lib.hid hny.symm
        have bdy : ny ≤ n1 - 1 := by rw [hny, ← H1.out]; exact slopeL_length _
        have Oy := Lib.hid hmy
        clear hmy hb hny
        have OX2 := Lib.hid (Ox.out.below hbly.out)
        go_wp2_with fail
        refine (spoil2 Ax Ay nx ny cx cy w63.heap.size (slopeL l1) (slopeL l1) _ OX2.out Hy.out (by exact Oy.out.rd) (Nat.le_trans hblx.out.size hbly.out.size) (by omega)).mono ?_
        rintro e w32 ⟨rfl, hb, _⟩
        rw [decide_eq_true rfl]
        replace HB := Lib.hid (HB.out.trans (hb.mono hsx))
        clear hb HBx HBy hblx hbly OX2 Ox Oy Hx Hy hsx hsy bdx bdy
        go_wp2_with fail
        refine (of_any Ac n1 cc l1 _ H1.out (by exact (RC.out.below HB.out).more HB.out.size) (by omega)).mono ?_
        rintro e w33 ⟨Ax, cx, rfl, hmx, hb⟩
        have hsx := HB.out.size
        have HBx := HB
        replace HB := Lib.hid (bstep HB.out (Nat.le_refl _) hb)
        have hblx := Lib.hid hb
        obtain ⟨nx, hnx⟩ : ∃ n, n = List.length (ofL l1) := ⟨_, rfl⟩
        rw [← hnx] at hmx ⊢
        have Hx := Lib.hid hnx.symm
        have bdx : nx ≤ n1 + 1 := by rw [hnx, ← H1.out]; exact ofL_length _
        have Ox := Lib.hid hmx
        clear hmx hb hnx
        go_wp2_with fail
        refine (rof_any A1 n1 c1 l1 _ H1.out (by exact (RA.out.below HB.out).more HB.out.size) (by omega) (fun A1 A2 n1 n2 c1 c2 l1 l2 w => rpmul_any A1 A2 n1 n2 c1 c2 l1 l2 w)).mono ?_
        rintro e w34 ⟨Ay, cy, rfl, hmy, hb⟩
        have hsy := HB.out.size
        have HBy := HB
        replace HB := Lib.hid (bstep HB.out (Nat.le_refl _) hb)
        have hbly := Lib.hid hb
        obtain ⟨ny, hny⟩ : ∃ n, n = List.length (ofL l1) := ⟨_, rfl⟩
        rw [← hny] at hmy ⊢
        have Hy := Lib.hid hny.symm
        have bdy : ny ≤ n1 + 1 := by rw [hny, ← H1.out]; exact ofL_length _
        have Oy := Lib.hid hmy
        clear hmy hb hny
        have OX2 := Lib.hid (Ox.out.below hbly.out)
        go_wp2_with fail
        refine (spoil2 Ax Ay nx ny cx cy w32.heap.size (ofL l1) (ofL l1) _ OX2.out Hy.out (by exact Oy.out.rd) (Nat.le_trans hblx.out.size hbly.out.size) (by omega)).mono ?_
        rintro e w35 ⟨rfl, hb, _⟩
        rw [decide_eq_true rfl]
        replace HB := Lib.hid (HB.out.trans (hb.mono hsx))
        clear hb HBx HBy hblx hbly OX2 Ox Oy Hx Hy hsx hsy bdx bdy
        go_wp2_with fail
        go_roundw
        case rel => exact ⟨k + 1, by omega, by go_num, HB.out⟩
        case measure => simp only [intOf]; omega
      · have hz0 : shortL l2 = [] := List.eq_nil_of_length_eq_zero (by omega)
        have HZ := Lib.hid hz0
        clear hz hz0
        go_wp2_with fail
        refine (div_bad Ac Ad n1 n2 cc cd l1 l2 _ H1.out H2.out (by exact (RC.out.below HB.out).more HB.out.size) (by exact (RD.out.below HB.out).more HB.out.size) (by omega) (by omega) kc kd HZ.out).mono ?_
        rintro e wd ⟨rfl, hb⟩
        replace HB := Lib.hid (bstep HB.out (Nat.le_refl _) hb)
        have hsz1 := hb.size
        clear hb
        go_wp2_with fail
        refine (rdiv_bad A1 A2 n1 n2 c1 c2 l1 l2 _ H1.out H2.out (by exact (RA.out.below HB.out).more HB.out.size) (by exact (RB.out.below HB.out).more HB.out.size) (by omega) (by omega) hc1 hc2 HZ.out).mono ?_
        rintro e wD ⟨rfl, hb⟩
        replace HB := Lib.hid (bstep HB.out (Nat.le_refl _) hb)
        have OQ := Lib.hid (Own.nil wD wB.heap.size)
        have OR := Lib.hid (Own.nil wD wB.heap.size)
        have OS := Lib.hid (Own.nil wD wd.heap.size)
        have OT := Lib.hid (Own.nil wD wd.heap.size)
        have HS := Lib.hid (show ([] : List F).length = 0 from rfl)
        have HT := HS
        have HNE := Lib.hid (show ∀ g, (none : Option Addr) = some ⟨g, 0, none⟩ → (none : Option Addr) ≠ some ⟨g, 0, none⟩ from fun g e => nomatch e)
        have HNT := HNE
        have hbD : wB.heap.size ≤ wD.heap.size := Nat.le_trans hsz1 hb.size
        have HD := Lib.hid (Below.refl wD.heap.size wD)
        clear hb
        go_wp2_with fail
        refine (short_any Ac n1 cc l1 _ H1.out (by exact (RC.out.below HB.out).more HB.out.size) (by omega) kc).mono ?_
        rintro e w21 ⟨Ax, cx, rfl, hmx, hb⟩
        have hsx := HB.out.size
        have HBx := HB
        replace HB := Lib.hid (bstep HB.out (Nat.le_refl _) hb)
        have hblx := Lib.hid hb
        obtain ⟨nx, hnx⟩ : ∃ n, n = List.length (shortL l1) := ⟨_, rfl⟩
        rw [← hnx] at hmx ⊢
        have Hx := Lib.hid hnx.symm
        have bdx : nx ≤ n1 := by rw [hnx, ← H1.out]; exact shortL_length _
        have Ox := Lib.hid hmx
        clear hmx hb hnx
        go_wp2_with fail
        refine (rshort_any A1 n1 c1 l1 _ H1.out (by exact (RA.out.below HB.out).more HB.out.size) (by omega) hc1).mono ?_
        rintro e w22 ⟨Ay, cy, rfl, hmy, hb⟩
        have hsy := HB.out.size
        have HBy := HB
        replace HB := Lib.hid (bstep HB.out (Nat.le_refl _) hb)
        have hbly := Lib.hid hb
        obtain ⟨ny, hny⟩ : ∃ n, n = List.length (shortL l1) := ⟨_, rfl⟩
        rw [← hny] at hmy ⊢
        have Hy := Lib.hid hny.symm
        have bdy : ny ≤ n1 := by rw [hny, ← H1.out]; exact shortL_length _
        have Oy := Lib.hid hmy
        clear hmy hb hny
        have OX2 := Lib.hid (Ox.out.below hbly.out)
        go_wp2_with fail
        refine (spoil2 Ax Ay nx ny cx cy wD.heap.size (shortL l1) (shortL l1) _ OX2.out Hy.out (by exact Oy.out.rd) (Nat.le_trans hblx.out.size hbly.out.size) (by omega)).mono ?_
        rintro e w23 ⟨rfl, hb, _⟩
        rw [decide_eq_true rfl]
        replace HB := Lib.hid (HB.out.trans (hb.mono hsx))
        replace HD := Lib.hid (HD.out.trans (((hblx.out.mono (HD.out.size)).trans (hbly.out.mono (Nat.le_trans HD.out.size hblx.out.size))).trans (hb.mono HD.out.size)))
        clear hb HBx HBy hblx hbly OX2 Ox Oy Hx Hy hsx hsy bdx bdy
        go_wp2_with fail
        refine (padd_any Ac Ad n1 n2 cc cd l1 l2 _ H1.out H2.out (by exact (RC.out.below HB.out).more HB.out.size) (by exact (RD.out.below HB.out).more HB.out.size) (by omega) (by omega)).mono ?_
        rintro e w24 ⟨Ax, cx, rfl, hmx, hb⟩
        have hsx := HB.out.size
        have HBx := HB
        replace HB := Lib.hid (bstep HB.out (Nat.le_refl _) hb)
        have hblx := Lib.hid hb
        obtain ⟨nx, hnx⟩ : ∃ n, n = List.length (addL l1 l2) := ⟨_, rfl⟩
        rw [← hnx] at hmx ⊢
        have Hx := Lib.hid hnx.symm
        have bdx : nx ≤ max n1 n2 := by rw [hnx, ← H1.out, ← H2.out]; exact addL_length _ _
        have Ox := Lib.hid hmx
        clear hmx hb hnx
        go_wp2_with fail
        refine (radd_any A1 A2 n1 n2 c1 c2 l1 l2 _ H1.out H2.out (by exact (RA.out.below HB.out).more HB.out.size) (by exact (RB.out.below HB.out).more HB.out.size) (by omega) (by omega)).mono ?_
        rintro e w25 ⟨Ay, cy, rfl, hmy, hb⟩
        have hsy := HB.out.size
        have HBy := HB
        replace HB := Lib.hid (bstep HB.out (Nat.le_refl _) hb)
        have hbly := Lib.hid hb
        obtain ⟨ny, hny⟩ : ∃ n, n = List.length (addL l1 l2) := ⟨_, rfl⟩
        rw [← hny] at hmy ⊢
        have Hy := Lib.hid hny.symm
        have bdy : ny ≤ max n1 n2 := by rw [hny, ← H1.out, ← H2.out]; exact addL_length _ _
        have Oy := Lib.hid hmy
        clear hmy hb hny
        have OX2 := Lib.hid (Ox.out.below hbly.out)
        go_wp2_with fail
        refine (spoil2 Ax Ay nx ny cx cy w23.heap.size (addL l1 l2) (addL l1 l2) _ OX2.out Hy.out (by exact Oy.out.rd) (Nat.le_trans hblx.out.size hbly.out.size) (by omega)).mono ?_
        rintro e w26 ⟨rfl, hb, _⟩
        rw [decide_eq_true rfl]
        replace HB := Lib.hid (HB.out.trans (hb.mono hsx))
        replace HD := Lib.hid (HD.out.trans (((hblx.out.mono (HD.out.size)).trans (hbly.out.mono (Nat.le_trans HD.out.size hblx.out.size))).trans (hb.mono HD.out.size)))
        clear hb HBx HBy hblx hbly OX2 Ox Oy Hx Hy hsx hsy bdx bdy
        go_wp2_with fail
        refine (pmul_any Ac Ad n1 n2 cc cd l1 l2 _ H1.out H2.out (by exact (RC.out.below HB.out).more HB.out.size) (by exact (RD.out.below HB.out).more HB.out.size) (by omega)).mono ?_
        rintro e w27 ⟨Ax, cx, rfl, hmx, hb⟩
        have hsx := HB.out.size
        have HBx := HB
        replace HB := Lib.hid (bstep HB.out (Nat.le_refl _) hb)
        have hblx := Lib.hid hb
        obtain ⟨nx, hnx⟩ : ∃ n, n = List.length (mulL l1 l2) := ⟨_, rfl⟩
        rw [← hnx] at hmx ⊢
        have Hx := Lib.hid hnx.symm
        have bdx : nx ≤ n1 + n2 := by rw [hnx, ← H1.out, ← H2.out]; exact mulL_length _ _
        have Ox := Lib.hid hmx
        clear hmx hb hnx
        go_wp2_with fail
        refine (rpmul_any A1 A2 n1 n2 c1 c2 l1 l2 _ H1.out H2.out (by exact (RA.out.below HB.out).more HB.out.size) (by exact (RB.out.below HB.out).more HB.out.size) (by omega)).mono ?_
        rintro e w28 ⟨Ay, cy, rfl, hmy, hb⟩
        have hsy := HB.out.size
        have HBy := HB
        replace HB := Lib.hid (bstep HB.out (Nat.le_refl _) hb)
        have hbly := Lib.hid hb
        obtain ⟨ny, hny⟩ : ∃ n, n = List.length (mulL l1 l2) := ⟨_, rfl⟩
        rw [← hny] at hmy ⊢
        have Hy := Lib.hid hny.symm
        have bdy : ny ≤ n1 + n2 := by rw [hny, ← H1.out, ← H2.out]; exact mulL_length _ _
        have Oy := Lib.hid hmy
        clear hmy hb hny
        have OX2 := Lib.hid (Ox.out.below hbly.out)
        go_wp2_with fail
        refine (spoil2 Ax Ay nx ny cx cy w26.heap.size (mulL l1 l2) (mulL l1 l2) _ OX2.out Hy.out (by exact Oy.out.rd) (Nat.le_trans hblx.out.size hbly.out.size) (by omega)).mono ?_
        rintro e w29 ⟨rfl, hb, _⟩
        rw [decide_eq_true rfl]
        replace HB := Lib.hid (HB.out.trans (hb.mono hsx))
        replace HD := Lib.hid (HD.out.trans (((hblx.out.mono (HD.out.size)).trans (hbly.out.mono (Nat.le_trans HD.out.size hblx.out.size))).trans (hb.mono HD.out.size)))
        clear hb HBx HBy hblx hbly OX2 Ox Oy Hx Hy hsx hsy bdx bdy
        go_wp2_with fail
        have OQ2 := Lib.hid (OQ.out.below HD.out)
        have OR2 := Lib.hid (OR.out.below HD.out)
        have RS2 := Lib.hid ((OS.out.below HD.out).rd)
        have OT2 := Lib.hid (OT.out.below HD.out)
        refine (spoil2 none none 0 0 0 0 wB.heap.size (([] : List F)) (([] : List F)) _ OQ2.out HS.out (by exact RS2.out) (Nat.le_trans hbD (HD.out.size)) (by omega)).mono ?_
        rintro e w60 ⟨rfl, hb, hk⟩
        rw [decide_eq_true rfl]
        replace HB := Lib.hid (HB.out.trans (hb.mono hBsz))
        have OR3 := Lib.hid (OR2.out.kept fun g e => hk g (OR2.out.lt e).2 (HNE.out g e))
        have OT3 := Lib.hid (OT2.out.kept fun g e => hk g (OT2.out.lt e).2 (HNT.out g e))
        have hszk := hb.size
        clear hb hk OQ2 OR2 RS2 OT2
        go_wp2_with fail
        refine (spoil2 none none 0 0 0 0 wB.heap.size (([] : List F)) (([] : List F)) _ OR3.out HT.out (by exact OT3.out.rd) (Nat.le_trans hbD (Nat.le_trans HD.out.size hszk)) (by omega)).mono ?_
        rintro e w61 ⟨rfl, hb, _⟩
        rw [decide_eq_true rfl]
        replace HB := Lib.hid (HB.out.trans (hb.mono hBsz))
        clear hb OR3 OT3 HD
        go_wp2_with fail
        refine (at_any Ac n1 cc l1 x _ H1.out (by omega) (by exact (RC.out.below HB.out).more HB.out.size)).mono ?_
        rintro e w62 ⟨rfl, hb⟩
        replace HB := Lib.hid (bstep HB.out (Nat.le_refl _) hb)
        clear hb
        go_wp2_with fail
        refine (rat_any A1 n1 c1 l1 x _ H1.out (by exact (RA.out.below HB.out).more HB.out.size) (by omega)).mono ?_
        rintro e w63 ⟨rfl, hb⟩
        replace HB := Lib.hid (bstep HB.out (Nat.le_refl _) hb)
        clear hb
        go_wp2_with fail
        refine (slope_any Ac n1 cc l1 _ H1.out (by exact (RC.out.below HB.out).more HB.out.size) (by omega) kc KC.out).mono ?_
        rintro e w30 ⟨Ax, cx, rfl, hmx, hb⟩
        have hsx := HB.out.size
        have HBx := HB
        replace HB := Lib.hid (bstep HB.out (Nat.le_refl _) hb)
        have hblx := Lib.hid hb
        obtain ⟨nx, hnx⟩ : ∃ n, n = List.length (slopeL l1) := ⟨_, rfl⟩
        rw [← hnx] at hmx ⊢
        have Hx := Lib.hid hnx.symm
        have bdx : nx ≤ n1 - 1 := by rw [hnx, ← H1.out]; exact slopeL_length _
        have Ox := Lib.hid hmx
        clear hmx hb hnx
        go_wp2_with fail
        refine (rslope_any A1 n1 c1 l1 _ H1.out (by exact (RA.out.below HB.out).more HB.out.size) (by omega)).mono ?_
        rintro e w31 ⟨Ay, cy, rfl, hmy, hb⟩
        have hsy := HB.out.size
        have HBy := HB
        replace HB := Lib.hid (bstep HB.out (Nat.le_refl _) hb)
        have hbly := Lib.hid hb
        obtain ⟨ny, hny⟩ : ∃ n, n = List.length (slopeL l1) := ⟨_, rfl⟩
        rw [← hny] at hmy ⊢
        have Hy := Lib.hid hny.symm
        have bdy : ny ≤ n1 - 1 := by rw [hny, ← H1.out]; exact slopeL_length _
        have Oy := Lib.hid hmy
        clear hmy hb hny
        have OX2 := Lib.hid (Ox.out.below hbly.out)
        go_wp2_with fail
        refine (spoil2 Ax Ay nx ny cx cy w63.heap.size (slopeL l1) (slopeL l1) _ OX2.out Hy.out (by exact Oy.out.rd) (Nat.le_trans hblx.out.size hbly.out.size) (by omega)).mono ?_
        rintro e w32 ⟨rfl, hb, _⟩
        rw [decide_eq_true rfl]
        replace HB := Lib.hid (HB.out.trans (hb.mono hsx))
        clear hb HBx HBy hblx hbly OX2 Ox Oy Hx Hy hsx hsy bdx bdy
        go_wp2_with fail
        refine (of_any Ac n1 cc l1 _ H1.out (by exact (RC.out.below HB.out).more HB.out.size) (by omega)).mono ?_
        rintro e w33 ⟨Ax, cx, rfl, hmx, hb⟩
        have hsx := HB.out.size
        have HBx := HB
        replace HB := Lib.hid (bstep HB.out (Nat.le_refl _) hb)
        have hblx := Lib.hid hb
        obtain ⟨nx, hnx⟩ : ∃ n, n = List.length (ofL l1) := ⟨_, rfl⟩
        rw [← hnx] at hmx ⊢
        have Hx := Lib.hid hnx.symm
        have bdx : nx ≤ n1 + 1 := by rw [hnx, ← H1.out]; exact ofL_length _
        have Ox := Lib.hid hmx
        clear hmx hb hnx
        go_wp2_with fail
        refine (rof_any A1 n1 c1 l1 _ H1.out (by exact (RA.out.below HB.out).more HB.out.size) (by omega) (fun A1 A2 n1 n2 c1 c2 l1 l2 w => rpmul_any A1 A2 n1 n2 c1 c2 l1 l2 w)).mono ?_
        rintro e w34 ⟨Ay, cy, rfl, hmy, hb⟩
        have hsy := HB.out.size
        have HBy := HB
        replace HB := Lib.hid (bstep HB.out (Nat.le_refl _) hb)
        have hbly := Lib.hid hb
        obtain ⟨ny, hny⟩ : ∃ n, n = List.length (ofL l1) := ⟨_, rfl⟩
        rw [← hny] at hmy ⊢
        have Hy := Lib.hid hny.symm
        have bdy : ny ≤ n1 + 1 := by rw [hny, ← H1.out]; exact ofL_length _
        have Oy := Lib.hid hmy
        clear hmy hb hny
        have OX2 := Lib.hid (Ox.out.below hbly.out)
        go_wp2_with fail
        refine (spoil2 Ax Ay nx ny cx cy w32.heap.size (ofL l1) (ofL l1) _ OX2.out Hy.out (by exact Oy.out.rd) (Nat.le_trans hblx.out.size hbly.out.size) (by omega)).mono ?_
        rintro e w35 ⟨rfl, hb, _⟩
        rw [decide_eq_true rfl]
        replace HB := Lib.hid (HB.out.trans (hb.mono hsx))
        clear hb HBx HBy hblx hbly OX2 Ox Oy Hx Hy hsx hsy bdx bdy
        go_wp2_with fail
        go_roundw
        case rel => exact ⟨k + 1, by omega, by go_num, HB.out⟩
        case measure => simp only [intOf]; omega
    · obtain rfl : k = 2 := by omega
      go_wp2_with fail
      refine (same_any Ac A1 n1 cc n1 c1 _ _ l1 l1 _ H1.out H1.out (by exact (RC.out.below HB.out).more HB.out.size) (by exact (RA.out.below HB.out).more HB.out.size) (Nat.le_refl _) (Nat.le_refl _) (by unfold maxLen; omega)).mono ?_
      rintro e w81 ⟨rfl, hb⟩
      rw [decide_eq_true rfl]
      replace HB := Lib.hid (bstep HB.out (Nat.le_refl _) hb)
      clear hb
      go_wp2_with fail
      refine (same_any Ad A2 n2 cd n2 c2 _ _ l2 l2 _ H2.out H2.out (by exact (RD.out.below HB.out).more HB.out.size) (by exact (RB.out.below HB.out).more HB.out.size) (Nat.le_refl _) (Nat.le_refl _) (by unfold maxLen; omega)).mono ?_
      rintro e w82 ⟨rfl, hb⟩
      rw [decide_eq_true rfl]
      replace HB := Lib.hid (bstep HB.out (Nat.le_refl _) hb)
      clear hb
      go_wp2_with fail
      refine (awake_any _).mono ?_
      rintro e w83 ⟨rfl, hb⟩
      replace HB := Lib.hid (bstep HB.out (Nat.le_refl _) hb)
      clear hb
      go_wp2_with fail
      go_ret
      exact ⟨rfl, bstep HW.out (Nat.le_refl _) HB.out⟩
end Go.Proofs.Ytneciddigglnmaa
