/- The walk of the statement DecodeApart: unlike right words of one length are unlike at more places than there are checks. -/
import Derived.Test.YtbahelhhkmonmaaDa
namespace Go.Proofs.Ytbahelhhkmonmaa
open Go.RowKit Go.Shelf

theorem cnt_zero (v w : List F) : cnt v w 0 = 0 := rfl
theorem cnt_append (a b x y : List F) (n r : Nat) (ha : a.length = n) (hb : b.length = n) : cnt (a ++ x) (b ++ y) (n + r) = cnt a b n + cnt x y r := by
  have h1 : ∀ k, k ≤ n → cnt (a ++ x) (b ++ y) k = cnt a b k := by
    intro k
    induction k with
    | zero => intro _; rfl
    | succ k ih =>
      intro hk
      by_cases h : a.getD k 0 = b.getD k 0
      · rw [cnt_eq h, cnt_eq (by rw [getD_append_left (by omega), getD_append_left (by omega)]; exact h), ih (by omega)]
      · rw [cnt_ne h, cnt_ne (by rw [getD_append_left (by omega), getD_append_left (by omega)]; exact h), ih (by omega)]
  induction r with
  | zero => exact h1 n (Nat.le_refl _)
  | succ r ih =>
    have e1 : (a ++ x).getD (n + r) 0 = x.getD r 0 := by rw [getD_append_right (by omega), ha, Nat.add_sub_cancel_left]
    have e2 : (b ++ y).getD (n + r) 0 = y.getD r 0 := by rw [getD_append_right (by omega), hb, Nat.add_sub_cancel_left]
    by_cases h : x.getD r 0 = y.getD r 0
    · rw [cnt_eq h, show n + (r + 1) = n + r + 1 from rfl, cnt_eq (by rw [e1, e2]; exact h), ih]
    · rw [cnt_ne h, show n + (r + 1) = n + r + 1 from rfl, cnt_ne (by rw [e1, e2]; exact h), ih]
      omega
theorem cnt_none {v w : List F} {n : Nat} (hv' : v.length = n) (hw : w.length = n) (h : cnt v w n = 0) : v = w := by
  refine ext_getD (by omega) fun j hj => ?_
  unfold cnt at h
  have := List.filter_eq_nil_iff.1 (List.length_eq_zero_iff.1 h) j (List.mem_range.2 (by omega))
  simpa using this
/-- The law: unlike data's words are unlike at more places than there are checks. -/
theorem words_apart {a b : List F} {n r : Nat} (ha : a.length = n) (hb : b.length = n) (hn : n + r ≤ 255) (h : cnt a b n + cnt (checkL a r) (checkL b r) r ≤ r) : a = b := by
  have hab := apart_few (v := a ++ checkL a r) (w := b ++ checkL b r) (n := n + r) (r := r) (by rw [List.length_append, ha, checkL_length]) (by rw [List.length_append, hb, checkL_length]) hn (fun j hj => hv_word a r j hj) (fun j hj => hv_word b r j hj)
    (by rw [cnt_append _ _ _ _ n r ha hb]; exact h)
  exact (List.append_inj hab (by omega)).1

set_option maxRecDepth 100000 in
set_option maxHeartbeats 1000000 in
theorem differ_any (A1 A2 : Option Addr) (n c1 c2 B1 B2 : Nat) (l m : List F) (w : World) (hl : l.length = n) (hm : m.length = n) (h1 : Rd w B1 A1 l) (h2 : Rd w B2 A2 m) (hB1 : B1 ≤ w.heap.size) (hB2 : B2 ≤ w.heap.size) (hn : n ≤ 100000) :
    Calls Try.prog 15 #[.slice A1 n c1, .slice A2 n c2] w fun e w' => e = .returned (.int .i64 (cnt l m n)) ∧ Below w.heap.size w w' := by
  have HL := Lib.hid hl
  have HM := Lib.hid hm
  have HR1 := Lib.hid (h1.more hB1)
  have HR2 := Lib.hid (h2.more hB2)
  clear hl hm h1 h2
  go_enter Try.func15, Try.ntmps15
  go_wp2
  go_loopw [5, 6] (fun v i wr => ∃ k : Nat, k ≤ n ∧ i = .int .i64 k ∧ v = .int .i64 (cnt l m k) ∧ Below w.heap.size w wr) (fun _ i _ => n - (intOf i).toNat)
  case atStart => exact ⟨0, Nat.zero_le _, rfl, rfl, Below.refl _ _⟩
  case round =>
    obtain ⟨k, hk, rfl, rfl, hbel⟩ := hrel
    by_cases hlt : k < n
    · obtain ⟨b1, o1, rfl, hb1, hc1⟩ := (HR1.out.below hbel) (by rw [HL.out]; omega)
      obtain ⟨b2, o2, rfl, hb2, hc2⟩ := (HR2.out.below hbel) (by rw [HM.out]; omega)
      have d1 := hc1 k (by rw [HL.out]; exact hlt)
      have d2 := hc2 k (by rw [HM.out]; exact hlt)
      have q1 : (0 : Int) ≤ (k : Int) := by omega
      have q2 : (k : Int) < (n : Int) := by omega
      have hle := cnt_le l m k
      clear hc1 hc2 HR1 HR2
      by_cases hxy : l.getD k 0 = m.getD k 0
      · have HS := Lib.hid (cnt_eq hxy)
        have t1 := fne hxy
        clear hxy
        generalize cnt l m k = u at HS hle ⊢
        generalize l.getD k 0 = x at d1 t1
        generalize m.getD k 0 = y at d2 t1
        go_wp2
        go_quiet (fail)
        go_wp2
        go_roundw
        case rel => exact ⟨k + 1, by omega, by go_num, by rw [HS.out], below_drewN hbel _⟩
        case measure => simp only [intOf]; omega
      · have HS := Lib.hid (cnt_ne hxy)
        have t1 := fne' hxy
        clear hxy
        generalize cnt l m k = u at HS hle ⊢
        generalize l.getD k 0 = x at d1 t1
        generalize m.getD k 0 = y at d2 t1
        go_wp2
        go_quiet (fail)
        go_wp2
        go_roundw
        case rel => exact ⟨k + 1, by omega, by go_num, by rw [HS.out]; go_num, below_drewN hbel _⟩
        case measure => simp only [intOf]; omega
    · obtain rfl : k = n := by omega
      go_wp2
      go_ret
      exact ⟨rfl, hbel⟩

set_option maxRecDepth 100000 in
set_option maxHeartbeats 1000000 in
theorem apart_bad (A1 A2 : Option Addr) (n1 n2 c1 c2 : Nat) (r : Int) (w : World) (h : 60 < n1 ∨ n2 ≠ n1 ∨ r < 0 ∨ 40 < r) :
    Calls Try.prog 6 #[.slice A1 n1 c1, .slice A2 n2 c2, .int .i64 r] w fun e w' => e = .returned (.bool true) ∧ Below w.heap.size w w' := by
  by_cases g1 : 60 < n1
  · clear h
    go_enter Try.func6, Try.ntmps6
    go_wp2_with fail
    refine (awake_any _).mono ?_
    rintro e w1 ⟨rfl, hb⟩
    go_wp2_with fail
    go_ret
    exact ⟨rfl, hb⟩
  by_cases g2 : n2 = n1
  · subst g2
    by_cases g3 : r < 0
    · clear h
      go_enter Try.func6, Try.ntmps6
      go_wp2_with fail
      refine (awake_any _).mono ?_
      rintro e w1 ⟨rfl, hb⟩
      go_wp2_with fail
      go_ret
      exact ⟨rfl, hb⟩
    · have g4 : 40 < r := by omega
      clear h
      go_enter Try.func6, Try.ntmps6
      go_wp2_with fail
      refine (awake_any _).mono ?_
      rintro e w1 ⟨rfl, hb⟩
      go_wp2_with fail
      go_ret
      exact ⟨rfl, hb⟩
  · have t : ((n2 : Int) != (n1 : Int)) = true := by rw [bne_iff_ne]; omega
    clear h g2
    go_enter Try.func6, Try.ntmps6
    go_wp2_with fail
    refine (awake_any _).mono ?_
    rintro e w1 ⟨rfl, hb⟩
    go_wp2_with fail
    go_ret
    exact ⟨rfl, hb⟩

set_option maxRecDepth 100000 in
set_option maxHeartbeats 4000000 in
theorem apart_in (A1 A2 : Option Addr) (n c1 c2 r : Nat) (la lb : List F) (w : World) (hla : la.length = n) (hlb : lb.length = n) (hra : Rd w w.heap.size A1 la) (hrb : Rd w w.heap.size A2 lb) (hn : n ≤ 60) (hr : r ≤ 40) :
    Calls Try.prog 6 #[.slice A1 n c1, .slice A2 n c2, .int .i64 r] w fun e w' => e = .returned (.bool true) ∧ Below w.heap.size w w' := by
  have HLA := Lib.hid hla
  have HLB := Lib.hid hlb
  have HRA := Lib.hid hra
  have HRB := Lib.hid hrb
  clear hla hlb hra hrb
  have t1 : decide ((60 : Int) < (n : Int)) = false := decide_eq_false (by omega)
  have t2 : decide ((40 : Int) < (r : Int)) = false := decide_eq_false (by omega)
  go_enter Try.func6, Try.ntmps6
  go_wp2_with fail
  refine (awake_any _).mono ?_
  rintro e w1 ⟨rfl, hb1⟩
  have HB1 := Lib.hid hb1
  have RA1 := Lib.hid ((HRA.out.below hb1).more hb1.size)
  have RB1 := Lib.hid ((HRB.out.below hb1).more hb1.size)
  clear hb1 HRA HRB
  go_wp2_with fail
  refine (check_ok A1 n c1 r la _ HLA.out (by exact RA1.out) (by omega)).mono ?_
  rintro e w2 ⟨A3, c3, rfl, hm3, hb2⟩
  rw [checkL_length]
  have R3 := Lib.hid hm3.rd
  have RA2 := Lib.hid ((RA1.out.below hb2).more hb2.size)
  have RB2 := Lib.hid ((RB1.out.below hb2).more hb2.size)
  have HB2 := Lib.hid (bstep HB1.out (Nat.le_refl _) hb2)
  clear hm3 hb2 RA1 RB1 HB1
  go_wp2_with fail
  refine (check_ok A2 n c2 r lb _ HLB.out (by exact RB2.out) (by omega)).mono ?_
  rintro e w3 ⟨A4, c4, rfl, hm4, hb3⟩
  rw [checkL_length]
  have R4 := Lib.hid hm4.rd
  replace R3 := Lib.hid ((R3.out.below hb3).more hb3.size)
  have RA3 := Lib.hid ((RA2.out.below hb3).more hb3.size)
  have RB3 := Lib.hid ((RB2.out.below hb3).more hb3.size)
  have HB3 := Lib.hid (bstep HB2.out (Nat.le_refl _) hb3)
  clear hm4 hb3 RA2 RB2 HB2
  go_wp2_with fail
  refine (differ_any A1 A2 n c1 c2 _ _ la lb _ HLA.out HLB.out (by exact RA3.out) (by exact RB3.out) (Nat.le_refl _) (Nat.le_refl _) (by omega)).mono ?_
  rintro e w4 ⟨rfl, hb4⟩
  have R34 := Lib.hid ((R3.out.below hb4).more hb4.size)
  have R44 := Lib.hid ((R4.out.below hb4).more hb4.size)
  have HB4 := Lib.hid (bstep HB3.out (Nat.le_refl _) hb4)
  have hle1 := cnt_le la lb n
  have hle2 := cnt_le (checkL la r) (checkL lb r) r
  have LAW := Lib.hid (words_apart (r := r) HLA.out HLB.out (by omega))
  have LZ := Lib.hid (cnt_none HLA.out HLB.out)
  have LS := Lib.hid (fun h : la = lb => show cnt (checkL la r) (checkL lb r) r = 0 by rw [h]; exact cnt_same r)
  have LS1 := Lib.hid (fun h : la = lb => show cnt la lb n = 0 by rw [h]; exact cnt_same n)
  obtain ⟨u, hu⟩ : ∃ u, u = cnt la lb n := ⟨_, rfl⟩
  obtain ⟨v, hv⟩ : ∃ v, v = cnt (checkL la r) (checkL lb r) r := ⟨_, rfl⟩
  rw [← hu] at LAW LZ LS1 hle1 ⊢
  rw [← hv] at LAW LS hle2
  have HV := Lib.hid hv
  clear hu hv hb4 R3 R4 HB3
  by_cases h0 : u = 0
  · have hv0 := LS.out (LZ.out h0)
    have s1 : ((u : Int) == 0) = true := by rw [beq_iff_eq]; omega
    have s2 : ((v : Int) == 0) = true := by rw [beq_iff_eq]; omega
    clear h0 hv0
    go_wp2_with fail
    refine (differ_any A3 A4 r c3 c4 _ _ (checkL la r) (checkL lb r) _ (checkL_length _ _) (checkL_length _ _) (by exact R34.out) (by exact R44.out) (Nat.le_refl _) (Nat.le_refl _) (by omega)).mono ?_
    rintro e w5 ⟨rfl, hb5⟩
    rw [← HV.out]
    have HB5 := Lib.hid (bstep HB4.out (Nat.le_refl _) hb5)
    clear hb5
    go_wp2_with fail
    go_ret
    exact ⟨rfl, HB5.out⟩
  · have s1 : ((u : Int) == 0) = false := by rw [beq_eq_false_iff_ne]; omega
    have s2 : (r : Int) < (u : Int) + (v : Int) := by
      rcases Nat.lt_or_ge r (u + v) with h | h
      · omega
      · exact absurd (LS1.out (LAW.out h)) h0
    have s3 : (0 : Int) < (u : Int) := by omega
    clear h0
    go_wp2_with fail
    refine (differ_any A3 A4 r c3 c4 _ _ (checkL la r) (checkL lb r) _ (checkL_length _ _) (checkL_length _ _) (by exact R34.out) (by exact R44.out) (Nat.le_refl _) (Nat.le_refl _) (by omega)).mono ?_
    rintro e w5 ⟨rfl, hb5⟩
    rw [← HV.out]
    have HB5 := Lib.hid (bstep HB4.out (Nat.le_refl _) hb5)
    clear hb5
    go_wp2_with fail
    go_ret
    exact ⟨rfl, HB5.out⟩

theorem apart_walk (A1 A2 : Option Addr) (n1 n2 c1 c2 : Nat) (r : Int) (la lb : List F) (w : World) (hla : la.length = n1) (hlb : lb.length = n2) (hra : Rd w w.heap.size A1 la) (hrb : Rd w w.heap.size A2 lb) :
    Calls Try.prog 6 #[.slice A1 n1 c1, .slice A2 n2 c2, .int .i64 r] w fun e w' => e = .returned (.bool true) ∧ Below w.heap.size w w' := by
  by_cases h : 60 < n1 ∨ n2 ≠ n1 ∨ r < 0 ∨ 40 < r
  · exact apart_bad A1 A2 n1 n2 c1 c2 r w h
  · obtain ⟨k, rfl⟩ := Int.eq_ofNat_of_zero_le (show 0 ≤ r by omega)
    obtain rfl : n2 = n1 := by omega
    exact apart_in A1 A2 n2 c1 c2 k la lb w hla hlb hra hrb (by omega) (by omega)
end Go.Proofs.Ytbahelhhkmonmaa
