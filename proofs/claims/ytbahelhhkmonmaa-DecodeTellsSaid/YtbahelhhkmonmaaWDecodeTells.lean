/- The walk of the statement DecodeTells: what any word is made is the document's. -/
import Derived.Test.YtbahelhhkmonmaaWDecodeMakes
import Derived.Test.YtbahelhhkmonmaaEw
namespace Go.Proofs.Ytbahelhhkmonmaa
open Go.RowKit Go.Shelf

/-- What a word is made, and the error. -/
def DecIs (n : Nat) (r : Int) (zs : List Int) (l d : List F) (k : Int) : Prop :=
  (mayB n r zs = false ∧ d = [] ∧ k = 1) ∨ (mayB n r zs = true ∧ Dec n r.toNat (zs.map Int.toNat) l d ∧ k = 0) ∨ (mayB n r zs = true ∧ (∀ d, ¬ Dec n r.toNat (zs.map Int.toNat) l d) ∧ d = [] ∧ k = 54)
theorem decIs_one {n : Nat} {r : Int} {zs : List Int} {l d d' : List F} {k k' : Int} (h : DecIs n r zs l d k) (h' : DecIs n r zs l d' k') : d = d' ∧ k = k' := by
  rcases h with ⟨hm, hd, hk⟩ | ⟨hm, hd, hk⟩ | ⟨hm, hno, hd, hk⟩
  · rcases h' with ⟨hm', hd', hk'⟩ | ⟨hm', hd', hk'⟩ | ⟨hm', hno', hd', hk'⟩
    · exact ⟨hd.trans hd'.symm, hk.trans hk'.symm⟩
    · rw [hm] at hm'; cases hm'
    · rw [hm] at hm'; cases hm'
  · rcases h' with ⟨hm', hd', hk'⟩ | ⟨hm', hd', hk'⟩ | ⟨hm', hno', hd', hk'⟩
    · rw [hm] at hm'; cases hm'
    · exact ⟨dec_apart (mayB_iff.1 hm).1.2.1 hd hd', hk.trans hk'.symm⟩
    · exact absurd hd (hno' _)
  · rcases h' with ⟨hm', hd', hk'⟩ | ⟨hm', hd', hk'⟩ | ⟨hm', hno', hd', hk'⟩
    · rw [hm] at hm'; cases hm'
    · exact absurd hd' (hno _)
    · exact ⟨hd.trans hd'.symm, hk.trans hk'.symm⟩
def RetAny (w : World) (n : Nat) (r : Int) (zs : List Int) (l : List F) (e : Ending) (w' : World) : Prop :=
  ∃ (A : Option Addr) (c : Nat) (d : List F) (k : Int), e = .returned (.tuple #[.slice A d.length c, .int .i64 k]) ∧ Own w' w.heap.size A d.length c d ∧ DecIs n r zs l d k ∧ Below w.heap.size w w'
theorem map_toNat (gs : List Nat) : (gs.map fun g : Nat => (g : Int)).map Int.toNat = gs := by
  rw [List.map_map]
  exact (List.map_congr_left fun g _ => Int.toNat_natCast g).trans (List.map_id gs)
theorem map_ofNat {n : Nat} {zs : List Int} (h : ∀ z ∈ zs, 0 ≤ z ∧ z < (n : Int)) : (zs.map Int.toNat).map (fun g : Nat => (g : Int)) = zs := by
  rw [List.map_map]
  exact (List.map_congr_left (g := fun z => z) fun z hz => Int.toNat_of_nonneg (h z hz).1).trans (List.map_id zs)
theorem RetDec.any {w : World} {n r : Nat} {gs : List Nat} {l : List F} {e : Ending} {w' : World} (h : RetDec w n r gs l e w') (hb : mayB n r (gs.map fun g : Nat => (g : Int)) = true) : RetAny w n r (gs.map fun g : Nat => (g : Int)) l e w' := by
  rcases h with ⟨A, c, d, he, ho, hd, hbl⟩ | ⟨hno, he, hbl⟩
  · have hl := hd.len
    subst hl
    exact ⟨A, c, d, 0, he, ho, .inr (.inl ⟨hb, by rw [map_toNat]; exact hd, rfl⟩), hbl⟩
  · exact ⟨none, 0, [], 54, he, Own.nil _ _, .inr (.inr ⟨hb, by rw [map_toNat]; exact hno, rfl, rfl⟩), hbl⟩
theorem word_all (A Ag : Option Addr) (n c ng cg : Nat) (r : Int) (zs : List Int) (l : List F) (w : World) (hl : l.length = n) (hrd : Rd w w.heap.size A l) (hz : zs.length = ng) (hI : RdI w w.heap.size Ag zs) (hng : ng ≤ 60) (hn : n ≤ 60) :
    Calls Try.prog 8 #[.slice A n c, .int .i64 r, .slice Ag ng cg] w (RetAny w n r zs l) := by
  by_cases hb : mayB n r zs = true
  · obtain ⟨⟨h1, h2, h3, h4⟩, hnd, hrg⟩ := mayB_iff.1 hb
    obtain ⟨k, rfl⟩ := Int.eq_ofNat_of_zero_le h3
    have hgs := map_ofNat hrg
    obtain ⟨gs, hgse⟩ : ∃ gs, gs = zs.map Int.toNat := ⟨_, rfl⟩
    rw [← hgse] at hgs
    subst hgs
    have hlt : ∀ g ∈ gs, g < n := fun g hg => by
      have := (hrg (g : Int) (List.mem_map.2 ⟨g, hg, rfl⟩)).2
      omega
    have hnd2 : gs.Nodup := (List.pairwise_map.1 hnd).imp fun hne e => hne (by rw [e])
    rw [List.length_map] at hz
    by_cases hgr : ng ≤ k
    · exact (word_in A Ag n c ng cg k l gs w hl hrd hz hI h1 (by omega) (by omega) hb hgr hnd2 hlt).mono fun e w' h => h.any hb
    · refine (word_lost A Ag n c ng cg k _ w (by rw [List.length_map]; exact hz) (by omega) hI (by omega) hb (by omega)).mono ?_
      rintro e w' ⟨he, hbl⟩
      exact RetDec.any (.inr ⟨fun d hd => by have := hd.few; omega, he, hbl⟩) hb
  · have hb : mayB n r zs = false := by simpa using hb
    refine (word_bad A Ag n c ng cg r zs w hz (by omega) hI (by omega) hb).mono ?_
    rintro e w' ⟨he, hbl⟩
    exact ⟨none, 0, [], 1, he, Own.nil _ _, .inl ⟨hb, rfl, rfl⟩, hbl⟩
theorem rword_all (A Ag : Option Addr) (n c ng cg : Nat) (r : Int) (zs : List Int) (l : List F) (w : World) (hl : l.length = n) (hrd : Rd w w.heap.size A l) (hz : zs.length = ng) (hI : RdI w w.heap.size Ag zs) (hng : ng ≤ 60) (hn : n ≤ 60) :
    Calls Try.prog 9 #[.slice A n c, .int .i64 r, .slice Ag ng cg] w (RetAny w n r zs l) := by
  by_cases hb : mayB n r zs = true
  · obtain ⟨⟨h1, h2, h3, h4⟩, hnd, hrg⟩ := mayB_iff.1 hb
    obtain ⟨k, rfl⟩ := Int.eq_ofNat_of_zero_le h3
    have hgs := map_ofNat hrg
    obtain ⟨gs, hgse⟩ : ∃ gs, gs = zs.map Int.toNat := ⟨_, rfl⟩
    rw [← hgse] at hgs
    subst hgs
    have hlt : ∀ g ∈ gs, g < n := fun g hg => by
      have := (hrg (g : Int) (List.mem_map.2 ⟨g, hg, rfl⟩)).2
      omega
    have hnd2 : gs.Nodup := (List.pairwise_map.1 hnd).imp fun hne e => hne (by rw [e])
    rw [List.length_map] at hz
    exact (rword_in A Ag n c ng cg k l gs w hl hrd hz (by omega) hI h1 (by omega) (by omega) hb hnd2 hlt).mono fun e w' h => h.any hb
  · have hb : mayB n r zs = false := by simpa using hb
    refine (rword_bad A Ag n c ng cg r zs w hz (by omega) hI (by omega) hb).mono ?_
    rintro e w' ⟨he, hbl⟩
    exact ⟨none, 0, [], 1, he, Own.nil _ _, .inl ⟨hb, rfl, rfl⟩, hbl⟩

set_option maxRecDepth 100000 in
set_option maxHeartbeats 4000000 in
theorem tells_in (A1 A3 : Option Addr) (n0 n3 c1 c3 : Nat) (r : Int) (l : List F) (zs : List Int) (w : World) (hl : l.length = n0) (hrd : Rd w w.heap.size A1 l) (h3 : zs.length = n3) (hr3 : RdI w w.heap.size A3 zs) (hn0 : n0 ≤ 60) (hn3 : n3 ≤ 60) (hr : r ≤ 40) :
    Calls Try.prog 3 #[.slice A1 n0 c1, .int .i64 r, .slice A3 n3 c3] w fun e w' => e = .returned (.bool true) ∧ Below w.heap.size w w' := by
  have HL := Lib.hid hl
  have HRD := Lib.hid hrd
  have HZ := Lib.hid h3
  have HZI := Lib.hid hr3
  clear hl hrd h3 hr3
  have u1 : decide ((60 : Int) < (n0 : Int)) = false := decide_eq_false (by omega)
  have u2 : decide ((60 : Int) < (n3 : Int)) = false := decide_eq_false (by omega)
  have u3 : decide ((40 : Int) < r) = false := decide_eq_false (by omega)
  go_enter Try.func3, Try.ntmps3
  go_wp2_with (first
    | (refine wpList_ext _ rfl (.tmp 29) (.tmp 30) rfl w.heap.size _ 0 _ [] rfl (Own.lit w w.heap.size [] _ (Nat.le_refl _) (by decide) rfl) A1 n0 c1 _ l rfl HL.out (HRD.out.below (balloc w _)) (by omega) (by simp) ?_; intro A5 c5 w1 hown1 hb1 hg1; simp only [Nat.zero_add, List.nil_append] at hown1; have B1 := Lib.hid ((balloc w (.cells #[] 29)).trans hb1); have hs1 := B1.out.size; have O1 := Lib.hid hown1; have I1 := Lib.hid ((HZI.out.below B1.out).more hs1); clear hown1 hb1 hg1)
    | (refine wpList_extV int_el _ rfl (.tmp 32) (.tmp 33) rfl w1.heap.size _ 0 _ [] rfl (OwnV.lit w1 w1.heap.size [] _ (Nat.le_refl _) (by decide) rfl) A3 n3 c3 w1.heap.size (zs.map (Value.int .i64)) (one_i64 _) rfl (by rw [List.length_map]; exact HZ.out) (I1.out.toV.below (balloc w1 _)) (by omega) (by simp) ?_; intro A6 c6 w2 hown2 hb2 hg2; simp only [Nat.zero_add, List.nil_append] at hown2))
  have B12 := Lib.hid ((balloc w1 (.cells #[] 3)).trans hb2)
  have O2 := Lib.hid (O1.out.below B12.out)
  have V2 := Lib.hid (hown2.less hs1)
  have B2 := Lib.hid (bstep B1.out (Nat.le_refl _) B12.out)
  clear hown2 hb2 hg2 B12 O1 I1 B1 hs1
  go_loopw [9] (fun v wr => ∃ k : Nat, k ≤ 2 ∧ v = .int .i64 k ∧ Own wr w.heap.size A5 n0 c5 l ∧ OwnV 3 wr w.heap.size A6 n3 c6 (zs.map (Value.int .i64)) ∧ Below w.heap.size w wr) (fun v _ => 2 - (intOf v).toNat)
  case atStart => exact ⟨0, Nat.zero_le _, rfl, O2.out, V2.out, B2.out⟩
  case round =>
    obtain ⟨k, hk, rfl, hown, hv, hbel⟩ := hrel
    have HO := Lib.hid hown
    have HV := Lib.hid hv
    have HB := Lib.hid hbel
    have hsq := hbel.size
    clear hown hv hbel O2 V2 B2
    obtain ⟨wq, rfl⟩ : ∃ wq, wq = wr := ⟨_, rfl⟩
    by_cases hk2 : k < 2
    · go_wp2_with fail
      refine (word_all A5 A6 n0 c5 n3 c6 r zs l _ HL.out HO.out.rd HZ.out HV.out.rd.toI hn3 hn0).mono ?_
      rintro e w3 ⟨A7, c7, d, kk, rfl, ho3, hd3, hb3⟩
      obtain ⟨m, hm⟩ : ∃ m, m = d.length := ⟨_, rfl⟩
      rw [← hm] at ho3 ⊢
      have HD3 := Lib.hid hd3
      have O3 := Lib.hid ho3
      have B3 := Lib.hid hb3
      have hs3 := hb3.size
      have RD3 := Lib.hid ((HRD.out.below (HB.out.trans (hb3.mono hsq))).more (Nat.le_trans hsq hs3))
      have RI3 := Lib.hid ((HZI.out.below (HB.out.trans (hb3.mono hsq))).more (Nat.le_trans hsq hs3))
      have HM := Lib.hid hm
      clear ho3 hd3 hb3 hm
      go_wp2_with fail
      refine (rword_all A1 A3 n0 c1 n3 c3 r zs l _ HL.out RD3.out HZ.out RI3.out hn3 hn0).mono ?_
      rintro e w4 ⟨A8, c8, d', k', rfl, ho4, hd4, hb4⟩
      obtain ⟨rfl, rfl⟩ := decIs_one HD3.out hd4
      rw [← HM.out] at ho4 ⊢
      have O4 := Lib.hid ho4
      have O34 := Lib.hid (O3.out.below hb4)
      have B4 := Lib.hid (bstep B3.out (Nat.le_refl _) hb4)
      have t1 : (kk != kk) = false := by simp
      have hm100 : m ≤ 60 := by
        rcases HD3.out with ⟨_, hd, _⟩ | ⟨_, hd, _⟩ | ⟨_, _, hd, _⟩
        · rw [HM.out, hd]; exact Nat.zero_le _
        · rw [HM.out, hd.len]; exact hn0
        · rw [HM.out, hd]; exact Nat.zero_le _
      clear ho4 hd4 hb4 O3 RD3 RI3 HD3 B3
      go_wp2_with fail
      refine (same_any A7 A8 m c7 m c8 w4.heap.size w4.heap.size d d _ HM.out.symm HM.out.symm O34.out.rd O4.out.rd (Nat.le_refl _) (Nat.le_refl _) (by unfold maxLen; omega)).mono ?_
      rintro e w5 ⟨rfl, hb5⟩
      rw [show decide (d = d) = true from decide_eq_true rfl]
      have O5 := Lib.hid (O34.out.below hb5)
      have B5 := Lib.hid (bstep B4.out (Nat.le_refl _) hb5)
      clear hb5 O34 O4 B4
      go_wp2_with fail
      go_loopw [14] (fun v wr => ∃ (j : Nat) (d2 : List F), j ≤ m ∧ v = .int .i64 j ∧ Own wr wq.heap.size A7 m c7 d2 ∧ Below wq.heap.size wq wr) (fun v _ => m - (intOf v).toNat)
      case atStart => exact ⟨0, d, Nat.zero_le _, rfl, O5.out, B5.out⟩
      case round =>
        obtain ⟨j, d2, hj, rfl, hown, hbel⟩ := hrel
        have HO7 := Lib.hid hown
        have HB7 := Lib.hid hbel
        clear hown hbel O5 B5
        by_cases hjm : j < m
        · obtain ⟨g, rfl, hg1, hg2⟩ := HO7.out.form (by omega)
          have ex := HO7.out.cell hjm
          have fx := HO7.out.frozen j
          go_wp2_with fail
          go_roundw
          case rel => exact ⟨j + 1, _, by omega, by go_num, HO7.out.store j (F.ofNat 777) (by rfl), HB7.out.setCell (p := ⟨g, j, none⟩) hg1 _⟩
          case measure => simp only [intOf]; omega
        · obtain rfl : j = m := by omega
          go_wp2_with fail
          go_roundw
          case rel => exact ⟨k + 1, by omega, by go_num, HO.out.below HB7.out, HV.out.below HB7.out, bstep HB.out (Nat.le_refl _) HB7.out⟩
          case measure => simp only [intOf]; omega
    · obtain rfl : k = 2 := by omega
      go_wp2_with fail
      go_loopw [15] (fun v wr => ∃ j : Nat, j ≤ n3 ∧ v = .int .i64 j ∧ Below wq.heap.size wq wr) (fun v _ => n3 - (intOf v).toNat)
      case atStart => exact ⟨0, Nat.zero_le _, rfl, Below.refl _ _⟩
      case round =>
        obtain ⟨j, hj, rfl, hbel⟩ := hrel
        have HB8 := Lib.hid hbel
        by_cases hjn : j < n3
        · obtain ⟨b1, o1, rfl, hb1, hcl1⟩ := (HV.out.rd.toI.below hbel) (by rw [HZ.out]; omega)
          obtain ⟨b2, o2, rfl, hb2, hcl2⟩ := ((HZI.out.below HB.out).more hsq |>.below hbel) (by rw [HZ.out]; omega)
          have d1 := hcl1 j (by rw [HZ.out]; exact hjn)
          have d2 := hcl2 j (by rw [HZ.out]; exact hjn)
          generalize zs[j]?.getD 0 = z at d1 d2
          have t1 : (z != z) = false := by simp
          have q1 : (0 : Int) ≤ (j : Int) := by omega
          have q2 : (j : Int) < (n3 : Int) := by omega
          clear hcl1 hcl2 hbel
          go_wp2_with fail
          go_quiet (fail)
          go_wp2_with fail
          go_roundw
          case rel => exact ⟨j + 1, by omega, by go_num, below_drewN HB8.out _⟩
          case measure => simp only [intOf]; omega
        · obtain rfl : j = n3 := by omega
          have R1 := Lib.hid (HO.out.below hbel).rd
          have B8 := Lib.hid (bstep HB.out (Nat.le_refl _) hbel)
          have R2 := Lib.hid ((HRD.out.below B8.out).more B8.out.size)
          clear hbel HB8
          go_wp2_with fail
          refine (same_any A5 A1 n0 c5 n0 c1 wr.heap.size wr.heap.size l l _ HL.out HL.out R1.out R2.out (Nat.le_refl _) (Nat.le_refl _) (by unfold maxLen; omega)).mono ?_
          rintro e w9 ⟨rfl, hb9⟩
          rw [show decide (l = l) = true from decide_eq_true rfl]
          have B9 := Lib.hid (bstep B8.out (Nat.le_refl _) hb9)
          clear hb9
          go_wp2_with fail
          refine (most_any r j _ (by omega)).mono ?_
          rintro e w' ⟨rfl, rfl⟩
          go_wp2_with fail
          refine (rmost_any r j _ (by omega)).mono ?_
          rintro e w' ⟨rfl, rfl⟩
          generalize mostZ r j = z
          have t1 : (z == z) = true := by simp
          go_wp2_with fail
          refine (awake_any _).mono ?_
          rintro e w10 ⟨rfl, hb10⟩
          go_wp2_with fail
          go_ret
          exact ⟨rfl, bstep B9.out (Nat.le_refl _) hb10⟩

set_option maxRecDepth 100000 in
set_option maxHeartbeats 4000000 in
theorem tells_bad (A1 A3 : Option Addr) (n0 n3 c1 c3 : Nat) (r : Int) (w : World) (h : 60 < n0 ∨ 60 < n3 ∨ 40 < r) :
    Calls Try.prog 3 #[.slice A1 n0 c1, .int .i64 r, .slice A3 n3 c3] w fun e w' => e = .returned (.bool true) ∧ Below w.heap.size w w' := by
  by_cases g1 : 60 < n0
  · have u1 : decide ((60 : Int) < (n0 : Int)) = true := decide_eq_true (by omega)
    clear h g1
    go_enter Try.func3, Try.ntmps3
    go_wp2_with fail
    refine (awake_any _).mono ?_
    rintro e w1 ⟨rfl, hb⟩
    go_wp2_with fail
    go_ret
    exact ⟨rfl, hb⟩
  have u1 : decide ((60 : Int) < (n0 : Int)) = false := decide_eq_false (by omega)
  by_cases g2 : 60 < n3
  · have u2 : decide ((60 : Int) < (n3 : Int)) = true := decide_eq_true (by omega)
    clear h g1 g2
    go_enter Try.func3, Try.ntmps3
    go_wp2_with fail
    refine (awake_any _).mono ?_
    rintro e w1 ⟨rfl, hb⟩
    go_wp2_with fail
    go_ret
    exact ⟨rfl, hb⟩
  have u2 : decide ((60 : Int) < (n3 : Int)) = false := decide_eq_false (by omega)
  have u3 : decide ((40 : Int) < r) = true := decide_eq_true (by omega)
  clear h g1 g2
  go_enter Try.func3, Try.ntmps3
  go_wp2_with fail
  refine (awake_any _).mono ?_
  rintro e w1 ⟨rfl, hb⟩
  go_wp2_with fail
  go_ret
  exact ⟨rfl, hb⟩

theorem tells_walk (A1 A3 : Option Addr) (n0 n3 c1 c3 : Nat) (r : Int) (l : List F) (zs : List Int) (w : World) (hl : l.length = n0) (hrd : Rd w w.heap.size A1 l) (h3 : zs.length = n3) (hr3 : RdI w w.heap.size A3 zs) :
    Calls Try.prog 3 #[.slice A1 n0 c1, .int .i64 r, .slice A3 n3 c3] w fun e w' => e = .returned (.bool true) ∧ Below w.heap.size w w' := by
  by_cases h : 60 < n0 ∨ 60 < n3 ∨ 40 < r
  · exact tells_bad A1 A3 n0 n3 c1 c3 r w h
  · exact tells_in A1 A3 n0 n3 c1 c3 r l zs w hl hrd h3 hr3 (by omega) (by omega) (by omega)
end Go.Proofs.Ytbahelhhkmonmaa
