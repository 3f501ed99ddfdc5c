/- The walk of the statement RsApart where the second row is the shorter one; both together. -/
import Derived.Test.YtnbekifcajmdkaaWRsApart
namespace Go.Proofs.Ytnbekifcajmdkaa
open Go.RowKit

set_option maxRecDepth 100000 in
set_option maxHeartbeats 8000000 in
theorem apart_b (A1 A2 : Option Addr) (n n2 c1 c2 : Nat) (r : Nat) (x : F) (la lb : List F) (w : World) (hla : la.length = n2) (hlb : lb.length = n) (hra : Rd w w.heap.size A1 la) (hrb : Rd w w.heap.size A2 lb)
    (h1 : n2 ≤ c1) (h2 : n ≤ c2) (hm1 : c1 ≤ 9223372036854775807) (hm2 : c2 ≤ 9223372036854775807) (hcmp : n < n2) :
    Calls Try.prog 6 #[.slice A1 n2 c1, .slice A2 n c2, .int .i64 r, .int .u16 x.nat] w fun e w' => e = .returned (.bool true) ∧ Below w.heap.size w w' := by
  have HLA := Lib.hid (show (la.take n).length = n by rw [List.length_take, hla]; omega)
  have HLB := Lib.hid (show (lb.take n).length = n by rw [List.length_take, hlb]; omega)
  have HRA := Lib.hid (hra.take n)
  have HRB := Lib.hid (hrb.take n)
  clear hla hlb hra hrb
  generalize la.take n = a at HLA HRA
  generalize lb.take n = b at HLB HRB
  go_enter Try.func6, Try.ntmps6
  go_wp2_with (first
    | (go_at_call 10; refine (works_any _).mono ?_; rintro e w' ⟨rfl, hbn⟩; (first | (replace hbw := bstep hbw (Nat.le_refl _) hbn; clear hbn) | (have hbw := hbn; clear hbn))))
  all_goals first | (go_ret; exact ⟨rfl, hbw⟩) | skip
  have hn2 : n ≤ 255 := by omega
  have hr2 : r ≤ 256 := by omega
  have hs2 : n + r ≤ 255 := by omega
  have hws := hbw.size
  refine (word_any A1 n c1 r a _ HLA.out (by exact (HRA.out.below hbw).more hbw.size) hs2).mono ?_
  rintro e w5 ⟨A5, c5, rfl, hown5, hb5⟩
  have HV := Lib.hid (show (wordL a r).length = n + r by rw [wordL_length, HLA.out])
  have HNV := Lib.hid (show Nought (wordL a r) r from fun j hj => hv_word a r j hj)
  rw [HV.out] at hown5 ⊢
  replace hbw := bstep hbw (Nat.le_refl _) hb5
  have R5 := Lib.hid hown5.rd
  clear hown5 hb5
  go_wp2_with fail
  refine (word_any A2 n c2 r b _ HLB.out (by exact (HRB.out.below hbw).more hbw.size) hs2).mono ?_
  rintro e w6 ⟨A6, c6, rfl, hown6, hb6⟩
  have HW := Lib.hid (show (wordL b r).length = n + r by rw [wordL_length, HLB.out])
  have HNW := Lib.hid (show Nought (wordL b r) r from fun j hj => hv_word b r j hj)
  have HSAME := Lib.hid (fun h => word_same (a := a) (b := b) (r := r) h (by rw [HLA.out, HLB.out]))
  rw [HW.out] at hown6 ⊢
  replace hbw := bstep hbw (Nat.le_refl _) hb6
  have R56 := Lib.hid ((R5.out.below hb6).more hb6.size)
  have R6 := Lib.hid hown6.rd
  clear hown6 hb6 R5
  generalize wordL a r = v at HV HNV HSAME R56
  generalize wordL b r = u at HW HNW HSAME R6
  go_wp2_with (first
    | (go_at_call 19; refine (new_any _).mono ?_; rintro e w' ⟨rfl, rfl⟩)
    | (at_make; refine wpList_mk _ rfl _ _ rfl w6.heap.size _ _ (n + r) rfl rfl (by omega) (by omega) (by omega) (by simp) ?_; intro w7 hown7 hg7; simp only [World.size_alloc] at hown7; have hz7 := hg7.size; simp only [World.size_alloc] at hz7)
    | (at_make; refine wpList_mk _ rfl _ _ rfl w6.heap.size _ _ (n + r) rfl rfl (by omega) (by omega) (by omega) (by omega) ?_; intro w8 hown8 hg8))
  have hz78 : w7.heap.size < w8.heap.size ∨ n + r = 0 := by
    rcases Nat.eq_zero_or_pos (n + r) with h0 | h0
    · exact .inr h0
    · obtain ⟨g, e, _, h⟩ := hown8.form h0
      injection e with e; injection e with e; omega
  have hz67 : w6.heap.size + 1 < w7.heap.size ∨ n + r = 0 := by
    rcases Nat.eq_zero_or_pos (n + r) with h0 | h0
    · exact .inr h0
    · obtain ⟨g, e, _, h⟩ := hown7.form h0
      injection e with e; injection e with e; omega
  have hb78 : Below w7.heap.size w7 w8 := (Below.refl _ _).grown hg8 (Nat.le_refl _) (by simp)
  have hb68 : Below w6.heap.size w6 w8 := ((balloc w6 (.cells #[] 47)).grown hg7 (by simp) (by simp)).trans (hb78.mono (by omega))
  have O7 := Lib.hid (hown7.below hb78)
  have O8 := Lib.hid hown8
  have HB := Lib.hid hb68
  clear hown7 hown8 hg7 hg8 hb78 hb68
  go_loopw [17, 18] (fun c i wr => ∃ (i' : Nat) (s t : List F), i' ≤ n + r ∧ i = .int .i64 i' ∧ c = .int .i64 (cnt v u i') ∧
      Own wr w6.heap.size (some ⟨w6.heap.size + 1, 0, none⟩) (n + r) (n + r) s ∧ Own wr w6.heap.size (some ⟨w7.heap.size, 0, none⟩) (n + r) (n + r) t ∧
      Hid (Upto (fun j => v.getD j 0 + u.getD j 0) i' (n + r) s) ∧ Hid (Upto (fun j => v.getD j 0 * x) i' (n + r) t) ∧ Below w6.heap.size w6 wr) (fun _ i _ => n + r - (intOf i).toNat)
  case atStart => exact ⟨0, _, _, by omega, rfl, rfl, O7.out, O8.out, upto_start _ _, upto_start _ _, HB.out⟩
  case round =>
    obtain ⟨i, s, t, hi, rfl, rfl, hs, ht, HS, HT, hbel⟩ := hrel
    clear O7 O8 HB
    by_cases hin : i < n + r
    · have hz78' : w7.heap.size < w8.heap.size := by omega
      have hz67' : w6.heap.size + 1 < w7.heap.size := by omega
      obtain ⟨b5, o5, rfl, hlt5, hc5⟩ := (R56.out.below hbel) (by rw [HV.out]; omega)
      obtain ⟨b6, o6, rfl, hlt6, hc6⟩ := (R6.out.below hbel) (by rw [HW.out]; omega)
      have d5 := hc5 i (by rw [HV.out]; exact hin)
      have d6 := hc6 i (by rw [HW.out]; exact hin)
      have d7 := hs.cell hin
      have d8 := ht.cell hin
      have f7 := hs.frozen i
      have f8 := ht.frozen i
      have HS2 := Lib.hid (upto_next HS.out hin (a := v.getD i 0 + u.getD i 0) rfl)
      have HT2 := Lib.hid (upto_next HT.out hin (a := v.getD i 0 * x) rfl)
      have hs1 := hs.store i (v.getD i 0 + u.getD i 0) rfl
      have ht1 := ht.far (p := ⟨w6.heap.size + 1, i, none⟩) (by show w7.heap.size ≠ w6.heap.size + 1; omega) (.int .u16 ((v.getD i 0 + u.getD i 0 : F).nat : Int))
      have hs2 := hs1.far (p := ⟨w7.heap.size, i, none⟩) (by show w6.heap.size + 1 ≠ w7.heap.size; omega) (.int .u16 ((v.getD i 0 * x : F).nat : Int))
      have ht2 := ht1.store i (v.getD i 0 * x) rfl
      have hb2 := (hbel.setCell (p := ⟨w6.heap.size + 1, i, none⟩) (by show w6.heap.size ≤ w6.heap.size + 1; omega) (.int .u16 ((v.getD i 0 + u.getD i 0 : F).nat : Int))).setCell (p := ⟨w7.heap.size, i, none⟩) (by show w6.heap.size ≤ w7.heap.size; omega) (.int .u16 ((v.getD i 0 * x : F).nat : Int))
      have HS3 := Lib.hid hs2
      have HT3 := Lib.hid ht2
      have HB3 := Lib.hid hb2
      have e8 : (wr.setCell ⟨w6.heap.size + 1, i, none⟩ (.int .u16 ((v.getD i 0 + u.getD i 0 : F).nat : Int))).cell? ⟨w7.heap.size, i, none⟩ = some (.int .u16 ((t.getD i 0).nat : Int)) := by
        rw [World.cell?_setCell_other _ _ _ _ (by intro e; injection e with e; omega)]; exact d8
      have hne : (w6.heap.size + 1 == w7.heap.size) = false := by rw [beq_eq_false_iff_ne]; omega
      clear hs1 ht1 hs2 ht2 hb2 hc5 hc6
      generalize t.getD i 0 = tt at d8 e8
      generalize s.getD i 0 = ss at d7
      have q1 : (0 : Int) ≤ (i : Int) := by omega
      have q2 : (i : Int) < ((n : Int) + (r : Int)) := by omega
      by_cases hxy : v.getD i 0 = u.getD i 0
      · have HCN := Lib.hid (cnt_eq hxy)
        have HXY := Lib.hid hxy
        clear hxy
        generalize v.getD i 0 = vv at d5 HXY HS2 HT2 HS3 HT3 HB3 e8
        generalize u.getD i 0 = uu at d6 HXY HS2 HT2 HS3 HT3 HB3 e8
        have hvu := fne HXY.out
        have e5 := (HB3.out.cell (p := ⟨b5, o5 + i, none⟩) hlt5).trans ((hbel.cell (p := ⟨b5, o5 + i, none⟩) hlt5).symm.trans d5)
        have e6 := (HB3.out.cell (p := ⟨b6, o6 + i, none⟩) hlt6).trans ((hbel.cell (p := ⟨b6, o6 + i, none⟩) hlt6).symm.trans d6)
        go_wp2
        refine region_tail 13 (by kernel_rfl) (by kernel_rfl) ?_
        simp only [List.take_succ_cons, List.take_zero, List.drop_succ_cons, List.drop_zero]
        repeat (first
          | still_step
          | still_call (stillOf (add_any _ _ _ vv uu _ rfl rfl)))
        refine wpStill_nil ?_
        go_wp2_with (go_at_call 20; refine (mul_any _ _ _ vv x _ rfl rfl).mono ?_; rintro e w' ⟨rfl, rfl⟩)
        go_quiet (fail)
        go_wp2
        go_roundw
        case rel => exact ⟨i + 1, _, _, by omega, by go_num, vint (by rw [HCN.out]), HS3.out.drewN (1 + nq), HT3.out.drewN (1 + nq), HS2, HT2, below_drewN HB3.out _⟩
        case measure => simp only [intOf]; omega
      · have HCN := Lib.hid (cnt_ne hxy)
        have HXY := Lib.hid hxy
        have hcl := cnt_le v u i
        clear hxy
        generalize v.getD i 0 = vv at d5 HXY HS2 HT2 HS3 HT3 HB3 e8
        generalize u.getD i 0 = uu at d6 HXY HS2 HT2 HS3 HT3 HB3 e8
        have hvu := fne' HXY.out
        have e5 := (HB3.out.cell (p := ⟨b5, o5 + i, none⟩) hlt5).trans ((hbel.cell (p := ⟨b5, o5 + i, none⟩) hlt5).symm.trans d5)
        have e6 := (HB3.out.cell (p := ⟨b6, o6 + i, none⟩) hlt6).trans ((hbel.cell (p := ⟨b6, o6 + i, none⟩) hlt6).symm.trans d6)
        go_wp2
        refine region_tail 13 (by kernel_rfl) (by kernel_rfl) ?_
        simp only [List.take_succ_cons, List.take_zero, List.drop_succ_cons, List.drop_zero]
        repeat (first
          | still_step
          | still_call (stillOf (add_any _ _ _ vv uu _ rfl rfl)))
        refine wpStill_nil ?_
        go_wp2_with (go_at_call 20; refine (mul_any _ _ _ vv x _ rfl rfl).mono ?_; rintro e w' ⟨rfl, rfl⟩)
        go_quiet (fail)
        go_wp2
        go_roundw
        case rel => exact ⟨i + 1, _, _, by omega, by go_num, vint (by rw [HCN.out]; omega), HS3.out.drewN (1 + nq), HT3.out.drewN (1 + nq), HS2, HT2, below_drewN HB3.out _⟩
        case measure => simp only [intOf]; omega
    · have hii : i = n + r := by omega
      have HI := Lib.hid hii
      clear hii
      have hsd := HS.out
      have htd := HT.out
      rw [HI.out] at hsd htd
      have ES := Lib.hid (upto_done hsd)
      have ET := Lib.hid (upto_done htd)
      have RS := Lib.hid (show rightB s (r : Int) = true by rw [ES.out]; exact right_sum v u (n + r) r HV.out HW.out hs2 (by omega) HNV.out HNW.out)
      have RT := Lib.hid (show rightB t (r : Int) = true by rw [ET.out]; exact right_times v (n + r) r x HV.out hs2 (by omega) HNV.out)
      have OS := Lib.hid hs
      have OT := Lib.hid ht
      have hbr := bstep hbw (Nat.le_refl _) hbel
      have RA2 := Lib.hid (HRA.out.below hbr)
      have RB2 := Lib.hid (HRB.out.below hbr)
      have hwr := hbr.size
      have hcl := cnt_le v u i
      have z0 : (0 : Int) ≤ (n : Int) := by omega
      have z1 : (n : Int) ≤ (c1 : Int) := by omega
      have z2 : (n : Int) ≤ (c2 : Int) := by omega
      clear hsd htd hs ht HS HT
      by_cases hc : cnt v u i ≤ r
      · have hvu : v = u := apart_few HV.out HW.out hs2 HNV.out HNW.out (by rw [← HI.out]; exact hc)
        have HAB := Lib.hid (HSAME.out hvu)
        have HC0 := Lib.hid (show cnt v u i = 0 by rw [hvu]; exact cnt_same i)
        have hc0 : ((cnt v u i : Int) == 0) = true := by rw [HC0.out]; rfl
        clear hvu hc
        go_wp2
        refine wp_region_held_drew (S := fun w' => Below wr.heap.size wr w') (by kernel_rfl) (Below.refl _ _).drew (fun hHeld => ?_)
        refine take_in (v := ?_) 111 0 rfl rfl (by kernel_rfl) (by kernel_rfl) (by kernel_rfl) (fun _ _ _ h => h) (by rfl) ?_ (by assumption) ?_
        rotate_left 1
        · (intro w hSw; go_simp; (try with_reducible rfl))
        (try simp only [List.setIfInBounds_toArray, List.set_cons_zero, List.set_cons_succ])
        refine take_in (v := ?_) 112 1 rfl rfl (by kernel_rfl) (by kernel_rfl) (by kernel_rfl) (fun _ _ _ h => h) (by rfl) ?_ (by assumption) ?_
        rotate_left 1
        · (intro w hSw; go_simp; (try with_reducible rfl))
        (try simp only [List.setIfInBounds_toArray, List.set_cons_zero, List.set_cons_succ])
        refine wpAnyH_ready (rs := [2]) (by kernel_rfl) (by simp) ?_
        refine AllReadyH.cons rfl (fun K hK => ?_) AllReadyH.nil
        go_simp
        refine (right_any _ _ _ _ s _ OS.out.len (by exact (OS.out.below hHeld).rd)).mono ?_
        rintro e wA ⟨rfl, hbA⟩
        rw [RS.out]
        go_wp2_with fail
        refine hK.out _ _ (bstep hHeld (Nat.le_refl _) (by assumption)) (fun hHeld => ?_)
        clear hK K
        (try simp only [List.setIfInBounds_toArray, List.set_cons_zero, List.set_cons_succ])
        refine take_in (v := ?_) 114 3 rfl rfl (by kernel_rfl) (by kernel_rfl) (by kernel_rfl) (fun _ _ _ h => h) (by rfl) ?_ (by assumption) ?_
        rotate_left 1
        · (intro w hSw; go_simp; (try with_reducible rfl))
        (try simp only [List.setIfInBounds_toArray, List.set_cons_zero, List.set_cons_succ])
        refine take_in (v := ?_) 115 4 rfl rfl (by kernel_rfl) (by kernel_rfl) (by kernel_rfl) (fun _ _ _ h => h) (by rfl) ?_ (by assumption) ?_
        rotate_left 1
        · (intro w hSw; go_simp; (try with_reducible rfl))
        (try simp only [List.setIfInBounds_toArray, List.set_cons_zero, List.set_cons_succ])
        refine take_in (v := ?_) 116 5 rfl rfl (by kernel_rfl) (by kernel_rfl) (by kernel_rfl) (fun _ _ _ h => h) (by rfl) ?_ (by assumption) ?_
        rotate_left 1
        · (intro w hSw; go_simp; (try with_reducible rfl))
        (try simp only [List.setIfInBounds_toArray, List.set_cons_zero, List.set_cons_succ])
        refine wpAnyH_ready (rs := [6]) (by kernel_rfl) (by simp) ?_
        refine AllReadyH.cons rfl (fun K hK => ?_) AllReadyH.nil
        go_simp
        refine (right_any _ _ _ _ t _ OT.out.len (by exact (OT.out.below hHeld).rd)).mono ?_
        rintro e wB ⟨rfl, hbB⟩
        rw [RT.out]
        go_wp2_with fail
        refine hK.out _ _ (bstep hHeld (Nat.le_refl _) (by assumption)) (fun hHeld => ?_)
        clear hK K
        (try simp only [List.setIfInBounds_toArray, List.set_cons_zero, List.set_cons_succ])
        refine take_in (v := ?_) 118 7 rfl rfl (by kernel_rfl) (by kernel_rfl) (by kernel_rfl) (fun _ _ _ h => h) (by rfl) ?_ (by assumption) ?_
        rotate_left 1
        · (intro w hSw; go_simp; (try with_reducible rfl))
        (try simp only [List.setIfInBounds_toArray, List.set_cons_zero, List.set_cons_succ])
        refine take_in (v := ?_) 119 8 rfl rfl (by kernel_rfl) (by kernel_rfl) (by kernel_rfl) (fun _ _ _ h => h) (by rfl) ?_ (by assumption) ?_
        rotate_left 1
        · (intro w hSw; go_simp; (try with_reducible rfl))
        (try simp only [List.setIfInBounds_toArray, List.set_cons_zero, List.set_cons_succ])
        refine take_in (v := ?_) 120 9 rfl rfl (by kernel_rfl) (by kernel_rfl) (by kernel_rfl) (fun _ _ _ h => h) (by rfl) ?_ (by assumption) ?_
        rotate_left 1
        · (intro w hSw; go_simp; (try with_reducible rfl))
        (try simp only [List.setIfInBounds_toArray, List.set_cons_zero, List.set_cons_succ])
        refine take_in (v := ?_) 121 10 rfl rfl (by kernel_rfl) (by kernel_rfl) (by kernel_rfl) (fun _ _ _ h => h) (by rfl) ?_ (by assumption) ?_
        rotate_left 1
        · (intro w hSw; go_simp; (try with_reducible rfl))
        (try simp only [List.setIfInBounds_toArray, List.set_cons_zero, List.set_cons_succ])
        refine take_in (v := ?_) 122 11 rfl rfl (by kernel_rfl) (by kernel_rfl) (by kernel_rfl) (fun _ _ _ h => h) (by rfl) ?_ (by assumption) ?_
        rotate_left 1
        · (intro w hSw; go_simp; (try with_reducible rfl))
        (try simp only [List.setIfInBounds_toArray, List.set_cons_zero, List.set_cons_succ])
        refine take_in (v := ?_) 123 12 rfl rfl (by kernel_rfl) (by kernel_rfl) (by kernel_rfl) (fun _ _ _ h => h) (by rfl) ?_ (by assumption) ?_
        rotate_left 1
        · (intro w hSw; go_simp; (try with_reducible rfl))
        (try simp only [List.setIfInBounds_toArray, List.set_cons_zero, List.set_cons_succ])
        refine take_in (v := ?_) 124 13 rfl rfl (by kernel_rfl) (by kernel_rfl) (by kernel_rfl) (fun _ _ _ h => h) (by rfl) ?_ (by assumption) ?_
        rotate_left 1
        · (intro w hSw; go_simp; (try with_reducible rfl))
        (try simp only [List.setIfInBounds_toArray, List.set_cons_zero, List.set_cons_succ])
        refine take_in (v := ?_) 125 14 rfl rfl (by kernel_rfl) (by kernel_rfl) (by kernel_rfl) (fun _ _ _ h => h) (by rfl) ?_ (by assumption) ?_
        rotate_left 1
        · (intro w hSw; go_simp; (try with_reducible rfl))
        (try simp only [List.setIfInBounds_toArray, List.set_cons_zero, List.set_cons_succ])
        refine take_in (v := ?_) 126 15 rfl rfl (by kernel_rfl) (by kernel_rfl) (by kernel_rfl) (fun _ _ _ h => h) (by rfl) ?_ (by assumption) ?_
        rotate_left 1
        · (intro w hSw; go_simp; (try with_reducible rfl))
        (try simp only [List.setIfInBounds_toArray, List.set_cons_zero, List.set_cons_succ])
        refine take_in (v := ?_) 127 16 rfl rfl (by kernel_rfl) (by kernel_rfl) (by kernel_rfl) (fun _ _ _ h => h) (by rfl) ?_ (by assumption) ?_
        rotate_left 1
        · (intro w hSw; go_simp; (try with_reducible rfl))
        (try simp only [List.setIfInBounds_toArray, List.set_cons_zero, List.set_cons_succ])
        refine take_in (v := ?_) 128 17 rfl rfl (by kernel_rfl) (by kernel_rfl) (by kernel_rfl) (fun _ _ _ h => h) (by rfl) ?_ (by assumption) ?_
        rotate_left 1
        · (intro w hSw; go_simp; (try with_reducible rfl))
        (try simp only [List.setIfInBounds_toArray, List.set_cons_zero, List.set_cons_succ])
        refine wpAnyH_ready (rs := [18]) (by kernel_rfl) (by simp) ?_
        refine AllReadyH.cons rfl (fun K hK => ?_) AllReadyH.nil
        go_simp
        refine (same_any A1 A2 n c1 n c2 w.heap.size w.heap.size a b _ HLA.out HLB.out (by exact RA2.out.below (Below.mono hHeld hwr)) (by exact RB2.out.below (Below.mono hHeld hwr)) (Nat.le_trans hwr (Below.size hHeld)) (Nat.le_trans hwr (Below.size hHeld)) (by unfold maxLen; omega)).mono ?_
        rintro e wC ⟨rfl, hbC⟩
        rw [decide_eq_true HAB.out]
        go_wp2_with fail
        refine hK.out _ _ (bstep hHeld (Nat.le_refl _) (by assumption)) (fun hHeld => ?_)
        clear hK K
        (try simp only [List.setIfInBounds_toArray, List.set_cons_zero, List.set_cons_succ])
        refine take_in (v := ?_) 130 19 rfl rfl (by kernel_rfl) (by kernel_rfl) (by kernel_rfl) (fun _ _ _ h => h) (by rfl) ?_ (by assumption) ?_
        rotate_left 1
        · (intro w hSw; go_simp; (try with_reducible rfl))
        (try simp only [List.setIfInBounds_toArray, List.set_cons_zero, List.set_cons_succ])
        refine take_in (v := ?_) 131 20 rfl rfl (by kernel_rfl) (by kernel_rfl) (by kernel_rfl) (fun _ _ _ h => h) (by rfl) ?_ (by assumption) ?_
        rotate_left 1
        · (intro w hSw; go_simp; (try with_reducible rfl))
        (try simp only [List.setIfInBounds_toArray, List.set_cons_zero, List.set_cons_succ])
        refine take_out 132 21 rfl rfl (by kernel_rfl) (by kernel_rfl) (by kernel_rfl) (fun _ _ _ h => h) (by rfl) (by assumption) ?_
        (try simp only [List.setIfInBounds_toArray, List.set_cons_zero, List.set_cons_succ])
        refine take_out 133 22 rfl rfl (by kernel_rfl) (by kernel_rfl) (by kernel_rfl) (fun _ _ _ h => h) (by rfl) (by assumption) ?_
        (try simp only [List.setIfInBounds_toArray, List.set_cons_zero, List.set_cons_succ])
        refine take_out 134 23 rfl rfl (by kernel_rfl) (by kernel_rfl) (by kernel_rfl) (fun _ _ _ h => h) (by rfl) (by assumption) ?_
        (try simp only [List.setIfInBounds_toArray, List.set_cons_zero, List.set_cons_succ])
        refine take_in (v := ?_) 135 24 rfl rfl (by kernel_rfl) (by kernel_rfl) (by kernel_rfl) (fun _ _ _ h => h) (by rfl) ?_ (by assumption) ?_
        rotate_left 1
        · (intro w hSw; go_simp; (try with_reducible rfl))
        (try simp only [List.setIfInBounds_toArray, List.set_cons_zero, List.set_cons_succ])
        refine take_in (v := ?_) 136 25 rfl rfl (by kernel_rfl) (by kernel_rfl) (by kernel_rfl) (fun _ _ _ h => h) (by rfl) ?_ (by assumption) ?_
        rotate_left 1
        · (intro w hSw; go_simp; (try with_reducible rfl))
        (try simp only [List.setIfInBounds_toArray, List.set_cons_zero, List.set_cons_succ])
        refine take_in (v := ?_) 8 26 rfl rfl (by kernel_rfl) (by kernel_rfl) (by kernel_rfl) (fun _ _ _ h => h) (by rfl) ?_ (by assumption) ?_
        rotate_left 1
        · (intro w hSw; go_simp; (try with_reducible rfl))
        (try simp only [List.setIfInBounds_toArray, List.set_cons_zero, List.set_cons_succ])
        refine wpAnyH_done (by kernel_rfl) ?_ _
        go_wp2
        go_ret
        exact ⟨rfl, bstep hbr (Nat.le_refl _) hHeld⟩
      · have hc0 : ((cnt v u i : Int) == 0) = false := by rw [beq_eq_false_iff_ne]; omega
        go_wp2
        refine wp_region_held_drew (S := fun w' => Below wr.heap.size wr w') (by kernel_rfl) (Below.refl _ _).drew (fun hHeld => ?_)
        refine take_in (v := ?_) 111 0 rfl rfl (by kernel_rfl) (by kernel_rfl) (by kernel_rfl) (fun _ _ _ h => h) (by rfl) ?_ (by assumption) ?_
        rotate_left 1
        · (intro w hSw; go_simp; (try with_reducible rfl))
        (try simp only [List.setIfInBounds_toArray, List.set_cons_zero, List.set_cons_succ])
        refine take_in (v := ?_) 112 1 rfl rfl (by kernel_rfl) (by kernel_rfl) (by kernel_rfl) (fun _ _ _ h => h) (by rfl) ?_ (by assumption) ?_
        rotate_left 1
        · (intro w hSw; go_simp; (try with_reducible rfl))
        (try simp only [List.setIfInBounds_toArray, List.set_cons_zero, List.set_cons_succ])
        refine wpAnyH_ready (rs := [2]) (by kernel_rfl) (by simp) ?_
        refine AllReadyH.cons rfl (fun K hK => ?_) AllReadyH.nil
        go_simp
        refine (right_any _ _ _ _ s _ OS.out.len (by exact (OS.out.below hHeld).rd)).mono ?_
        rintro e wA ⟨rfl, hbA⟩
        rw [RS.out]
        go_wp2_with fail
        refine hK.out _ _ (bstep hHeld (Nat.le_refl _) (by assumption)) (fun hHeld => ?_)
        clear hK K
        (try simp only [List.setIfInBounds_toArray, List.set_cons_zero, List.set_cons_succ])
        refine take_in (v := ?_) 114 3 rfl rfl (by kernel_rfl) (by kernel_rfl) (by kernel_rfl) (fun _ _ _ h => h) (by rfl) ?_ (by assumption) ?_
        rotate_left 1
        · (intro w hSw; go_simp; (try with_reducible rfl))
        (try simp only [List.setIfInBounds_toArray, List.set_cons_zero, List.set_cons_succ])
        refine take_in (v := ?_) 115 4 rfl rfl (by kernel_rfl) (by kernel_rfl) (by kernel_rfl) (fun _ _ _ h => h) (by rfl) ?_ (by assumption) ?_
        rotate_left 1
        · (intro w hSw; go_simp; (try with_reducible rfl))
        (try simp only [List.setIfInBounds_toArray, List.set_cons_zero, List.set_cons_succ])
        refine take_in (v := ?_) 116 5 rfl rfl (by kernel_rfl) (by kernel_rfl) (by kernel_rfl) (fun _ _ _ h => h) (by rfl) ?_ (by assumption) ?_
        rotate_left 1
        · (intro w hSw; go_simp; (try with_reducible rfl))
        (try simp only [List.setIfInBounds_toArray, List.set_cons_zero, List.set_cons_succ])
        refine wpAnyH_ready (rs := [6]) (by kernel_rfl) (by simp) ?_
        refine AllReadyH.cons rfl (fun K hK => ?_) AllReadyH.nil
        go_simp
        refine (right_any _ _ _ _ t _ OT.out.len (by exact (OT.out.below hHeld).rd)).mono ?_
        rintro e wB ⟨rfl, hbB⟩
        rw [RT.out]
        go_wp2_with fail
        refine hK.out _ _ (bstep hHeld (Nat.le_refl _) (by assumption)) (fun hHeld => ?_)
        clear hK K
        (try simp only [List.setIfInBounds_toArray, List.set_cons_zero, List.set_cons_succ])
        refine take_in (v := ?_) 118 7 rfl rfl (by kernel_rfl) (by kernel_rfl) (by kernel_rfl) (fun _ _ _ h => h) (by rfl) ?_ (by assumption) ?_
        rotate_left 1
        · (intro w hSw; go_simp; (try with_reducible rfl))
        (try simp only [List.setIfInBounds_toArray, List.set_cons_zero, List.set_cons_succ])
        refine take_in (v := ?_) 119 8 rfl rfl (by kernel_rfl) (by kernel_rfl) (by kernel_rfl) (fun _ _ _ h => h) (by rfl) ?_ (by assumption) ?_
        rotate_left 1
        · (intro w hSw; go_simp; (try with_reducible rfl))
        (try simp only [List.setIfInBounds_toArray, List.set_cons_zero, List.set_cons_succ])
        refine take_in (v := ?_) 120 9 rfl rfl (by kernel_rfl) (by kernel_rfl) (by kernel_rfl) (fun _ _ _ h => h) (by rfl) ?_ (by assumption) ?_
        rotate_left 1
        · (intro w hSw; go_simp; (try with_reducible rfl))
        (try simp only [List.setIfInBounds_toArray, List.set_cons_zero, List.set_cons_succ])
        refine take_in (v := ?_) 121 10 rfl rfl (by kernel_rfl) (by kernel_rfl) (by kernel_rfl) (fun _ _ _ h => h) (by rfl) ?_ (by assumption) ?_
        rotate_left 1
        · (intro w hSw; go_simp; (try with_reducible rfl))
        (try simp only [List.setIfInBounds_toArray, List.set_cons_zero, List.set_cons_succ])
        refine take_in (v := ?_) 122 11 rfl rfl (by kernel_rfl) (by kernel_rfl) (by kernel_rfl) (fun _ _ _ h => h) (by rfl) ?_ (by assumption) ?_
        rotate_left 1
        · (intro w hSw; go_simp; (try with_reducible rfl))
        (try simp only [List.setIfInBounds_toArray, List.set_cons_zero, List.set_cons_succ])
        refine take_out 123 12 rfl rfl (by kernel_rfl) (by kernel_rfl) (by kernel_rfl) (fun _ _ _ h => h) (by rfl) (by assumption) ?_
        (try simp only [List.setIfInBounds_toArray, List.set_cons_zero, List.set_cons_succ])
        refine take_out 124 13 rfl rfl (by kernel_rfl) (by kernel_rfl) (by kernel_rfl) (fun _ _ _ h => h) (by rfl) (by assumption) ?_
        (try simp only [List.setIfInBounds_toArray, List.set_cons_zero, List.set_cons_succ])
        refine take_out 125 14 rfl rfl (by kernel_rfl) (by kernel_rfl) (by kernel_rfl) (fun _ _ _ h => h) (by rfl) (by assumption) ?_
        (try simp only [List.setIfInBounds_toArray, List.set_cons_zero, List.set_cons_succ])
        refine take_out 126 15 rfl rfl (by kernel_rfl) (by kernel_rfl) (by kernel_rfl) (fun _ _ _ h => h) (by rfl) (by assumption) ?_
        (try simp only [List.setIfInBounds_toArray, List.set_cons_zero, List.set_cons_succ])
        refine take_out 127 16 rfl rfl (by kernel_rfl) (by kernel_rfl) (by kernel_rfl) (fun _ _ _ h => h) (by rfl) (by assumption) ?_
        (try simp only [List.setIfInBounds_toArray, List.set_cons_zero, List.set_cons_succ])
        refine take_out 128 17 rfl rfl (by kernel_rfl) (by kernel_rfl) (by kernel_rfl) (fun _ _ _ h => h) (by rfl) (by assumption) ?_
        (try simp only [List.setIfInBounds_toArray, List.set_cons_zero, List.set_cons_succ])
        refine take_out 129 18 rfl rfl (by kernel_rfl) (by kernel_rfl) (by kernel_rfl) (fun _ _ _ h => h) (by rfl) (by assumption) ?_
        (try simp only [List.setIfInBounds_toArray, List.set_cons_zero, List.set_cons_succ])
        refine take_in (v := ?_) 130 19 rfl rfl (by kernel_rfl) (by kernel_rfl) (by kernel_rfl) (fun _ _ _ h => h) (by rfl) ?_ (by assumption) ?_
        rotate_left 1
        · (intro w hSw; go_simp; (try with_reducible rfl))
        (try simp only [List.setIfInBounds_toArray, List.set_cons_zero, List.set_cons_succ])
        refine take_in (v := ?_) 131 20 rfl rfl (by kernel_rfl) (by kernel_rfl) (by kernel_rfl) (fun _ _ _ h => h) (by rfl) ?_ (by assumption) ?_
        rotate_left 1
        · (intro w hSw; go_simp; (try with_reducible rfl))
        (try simp only [List.setIfInBounds_toArray, List.set_cons_zero, List.set_cons_succ])
        refine take_in (v := ?_) 132 21 rfl rfl (by kernel_rfl) (by kernel_rfl) (by kernel_rfl) (fun _ _ _ h => h) (by rfl) ?_ (by assumption) ?_
        rotate_left 1
        · (intro w hSw; go_simp; (try with_reducible rfl))
        (try simp only [List.setIfInBounds_toArray, List.set_cons_zero, List.set_cons_succ])
        refine take_in (v := ?_) 133 22 rfl rfl (by kernel_rfl) (by kernel_rfl) (by kernel_rfl) (fun _ _ _ h => h) (by rfl) ?_ (by assumption) ?_
        rotate_left 1
        · (intro w hSw; go_simp; (try with_reducible rfl))
        (try simp only [List.setIfInBounds_toArray, List.set_cons_zero, List.set_cons_succ])
        refine take_in (v := ?_) 134 23 rfl rfl (by kernel_rfl) (by kernel_rfl) (by kernel_rfl) (fun _ _ _ h => h) (by rfl) ?_ (by assumption) ?_
        rotate_left 1
        · (intro w hSw; go_simp; (try with_reducible rfl))
        (try simp only [List.setIfInBounds_toArray, List.set_cons_zero, List.set_cons_succ])
        refine take_in (v := ?_) 135 24 rfl rfl (by kernel_rfl) (by kernel_rfl) (by kernel_rfl) (fun _ _ _ h => h) (by rfl) ?_ (by assumption) ?_
        rotate_left 1
        · (intro w hSw; go_simp; (try with_reducible rfl))
        (try simp only [List.setIfInBounds_toArray, List.set_cons_zero, List.set_cons_succ])
        refine take_in (v := ?_) 136 25 rfl rfl (by kernel_rfl) (by kernel_rfl) (by kernel_rfl) (fun _ _ _ h => h) (by rfl) ?_ (by assumption) ?_
        rotate_left 1
        · (intro w hSw; go_simp; (try with_reducible rfl))
        (try simp only [List.setIfInBounds_toArray, List.set_cons_zero, List.set_cons_succ])
        refine take_in (v := ?_) 8 26 rfl rfl (by kernel_rfl) (by kernel_rfl) (by kernel_rfl) (fun _ _ _ h => h) (by rfl) ?_ (by assumption) ?_
        rotate_left 1
        · (intro w hSw; go_simp; (try with_reducible rfl))
        (try simp only [List.setIfInBounds_toArray, List.set_cons_zero, List.set_cons_succ])
        refine wpAnyH_done (by kernel_rfl) ?_ _
        go_wp2
        go_ret
        exact ⟨ebool (decide_eq_true (by omega)), bstep hbr (Nat.le_refl _) hHeld⟩

set_option maxHeartbeats 2000000 in
theorem apart_neg (A1 A2 : Option Addr) (n1 n2 c1 c2 : Nat) (r : Int) (x : F) (w : World) (hr : r < 0) (h1 : n1 ≤ 9223372036854775807) (h2 : n2 ≤ 9223372036854775807) :
    Calls Try.prog 6 #[.slice A1 n1 c1, .slice A2 n2 c2, .int .i64 r, .int .u16 x.nat] w fun e w' => e = .returned (.bool true) ∧ Below w.heap.size w w' := by
  rcases Nat.lt_or_ge n2 n1 with h | h
  all_goals
    go_enter Try.func6, Try.ntmps6
    go_wp2_with (first
      | (go_at_call 10; refine (works_any _).mono ?_; rintro e w' ⟨rfl, hbn⟩; (first | (replace hbw := bstep hbw (Nat.le_refl _) hbn; clear hbn) | (have hbw := hbn; clear hbn))))
    all_goals (go_ret; exact ⟨rfl, hbw⟩)

theorem apart_walk (A1 A2 : Option Addr) (n1 n2 c1 c2 : Nat) (r : Int) (x : F) (la lb : List F) (w : World) (hla : la.length = n1) (hlb : lb.length = n2) (hra : Rd w w.heap.size A1 la) (hrb : Rd w w.heap.size A2 lb)
    (h1 : n1 ≤ c1) (h2 : n2 ≤ c2) (hm1 : c1 ≤ 9223372036854775807) (hm2 : c2 ≤ 9223372036854775807) :
    Calls Try.prog 6 #[.slice A1 n1 c1, .slice A2 n2 c2, .int .i64 r, .int .u16 x.nat] w fun e w' => e = .returned (.bool true) ∧ Below w.heap.size w w' := by
  by_cases hr : r < 0
  · exact apart_neg A1 A2 n1 n2 c1 c2 r x w hr (by omega) (by omega)
  · obtain ⟨r', rfl⟩ := Int.eq_ofNat_of_zero_le (show 0 ≤ r by omega)
    by_cases h : n1 ≤ n2
    · exact apart_a A1 A2 n1 n2 c1 c2 r' x la lb w hla hlb hra hrb h1 h2 hm1 hm2 h
    · exact apart_b A1 A2 n2 n1 c1 c2 r' x la lb w hla hlb hra hrb h1 h2 hm1 hm2 (by omega)
end Go.Proofs.Ytnbekifcajmdkaa
