/- The walk of the statement RsOne: one check is the sum; the checks of one symbol. -/
import Derived.Test.YtnbekifcajmdkaaWRsRight
namespace Go.Proofs.Ytnbekifcajmdkaa
open Go.RowKit

theorem check_one (l : List F) : checkL l 1 = [fsum l.length (fun i => l.getD i 0)] := by
  refine hv_unique (by rw [checkL_length]; rfl) (by rw [checkL_length]; omega) fun j hj => ?_
  rw [checkL_length] at hj
  obtain rfl : j = 0 := by omega
  rw [hv_checkL _ _ _ (by omega), hv_single, show List.replicate 1 (0 : F) = [0] from rfl, hv_snoc, F.px_zero, F.mul_one, F.add_zero, hv_sum]
  exact fsum_congr fun i _ => by rw [F.one_pow, F.mul_one]
theorem one_zeros (n : Nat) (x : F) : (List.replicate (n + 1) (0 : F)).set 0 x = x :: List.replicate n 0 := rfl
theorem check_times (n r : Nat) (x : F) (h : n + 1 + r ≤ 65535) : checkL (x :: List.replicate n 0) r = tab r (fun i => (checkL (1 :: List.replicate n 0) r).getD i 0 * x) := by
  refine hv_unique (by rw [checkL_length, tab_length]) (by rw [checkL_length]; omega) fun j hj => ?_
  rw [checkL_length] at hj
  have e := tab_self (checkL (1 :: List.replicate n 0) r)
  rw [checkL_length] at e
  rw [hv_checkL _ _ _ hj, hv_tab_mul, ← e, hv_checkL _ _ _ hj]
  rw [List.cons_append, List.cons_append, hv_cons, hv_cons, hv_zeros_append, hv_zeros, F.add_zero, F.add_zero, F.one_mul, F.mul_comm]
/-- The sum of the first symbols. -/
def sumTo (l : List F) (i : Nat) : F := fsum i (fun t => l.getD t 0)

set_option maxRecDepth 100000 in
set_option maxHeartbeats 8000000 in
theorem one_nat (A : Option Addr) (n c : Nat) (x : F) (m1 m2 : Int) (k r : Nat) (l : List F) (w : World) (hl : l.length = n) (hrd : Rd w w.heap.size A l)
    (hk : wrap64 ((IntKind.u64.wrap m1).tmod 60) = (k : Int)) (hk2 : k ≤ 59) (hr : wrap64 ((IntKind.u64.wrap m2).tmod 60) = (r : Int)) (hr2 : r ≤ 59) (hn2 : n ≤ 254) :
    Calls Try.prog 9 #[.slice A n c, .int .u16 x.nat, .int .i64 m1, .int .i64 m2] w fun e w' => e = .returned (.bool true) ∧ Below w.heap.size w w' := by
  have HL := Lib.hid hl
  have HRD := Lib.hid hrd
  clear hl hrd
  go_enter Try.func9, Try.ntmps9
  go_wp2_with (first
    | (go_at_call 10; refine (works_any _).mono ?_; rintro e w' ⟨rfl, hbw⟩)
    | (go_at_call 19; refine (new_any _).mono ?_; rintro e w' ⟨rfl, rfl⟩))
  replace hbw := hbw.alloc hbw.size (.cells #[] 47)
  go_loopw [10, 11] (fun s i wr => ∃ i' : Nat, i' ≤ n ∧ i = .int .i64 i' ∧ s = .int .u16 (sumTo l i').nat ∧ Below w.heap.size w wr) (fun _ i _ => n - (intOf i).toNat)
  case atStart => exact ⟨0, by omega, rfl, rfl, hbw⟩
  case round =>
    obtain ⟨i, hi, rfl, rfl, hbel⟩ := hrel
    clear hbw
    by_cases hin : i < n
    · obtain ⟨b, off, rfl, hb, hc⟩ := (HRD.out.below hbel) (by rw [HL.out]; omega)
      have c1 := hc i (by rw [HL.out]; exact hin)
      have HS := Lib.hid (show sumTo l (i + 1) = sumTo l i + l.getD i 0 from rfl)
      clear hc
      generalize l.getD i 0 = y at c1 HS
      go_wp2_with (go_at_call 21; refine (add_any _ _ _ _ _ _ rfl rfl).mono ?_; rintro e w' ⟨rfl, rfl⟩)
      go_roundw
      case rel => exact ⟨i + 1, by omega, by go_num, by rw [HS.out], hbel⟩
      case measure => simp only [intOf]; omega
    · obtain rfl : i = n := by omega
      have HCH := Lib.hid (show checkL l 1 = [sumTo l i] by have := check_one l; rw [HL.out] at this; exact this)
      generalize sumTo l i = sm at HCH ⊢
      go_wp2_with fail
      refine (check_ok A i c 1 l _ HL.out (by exact (HRD.out.below hbel).more hbel.size) (by omega)).mono ?_
      rintro e w1 ⟨A1, c1, rfl, hm1, hb1⟩
      rw [checkL_length]
      rw [HCH.out] at hm1
      obtain ⟨b1, o1, rfl, hlt1, hc1⟩ := hm1.rd (by simp)
      have hcell := hc1 0 (by simp)
      rw [Nat.add_zero, show ([sm] : List F).getD 0 0 = sm from rfl] at hcell
      replace hbel := bstep hbel (Nat.le_refl _) hb1
      clear hm1 hb1 hc1
      have hstep : ∀ w', Below w1.heap.size w1 w' → w'.cell? ⟨b1, o1, none⟩ = some (.int .u16 (sm.nat : Int)) := fun w' hb => (hb.cell (p := ⟨b1, o1, none⟩) hlt1).trans hcell
      have HST := Lib.hid hstep
      clear hstep hcell
      have hws := hbel.size
      have HRK := Lib.hid (check_times k r x (by omega))
      go_wp2_with (first
        | (at_make; refine wpList_mk _ rfl _ _ rfl w1.heap.size _ _ (k + 1) rfl rfl (by omega) (by omega) (by omega) (Nat.le_refl w1.heap.size) ?_; intro w3 hown3 hg3; have f1 := hown3.zero (by omega); have f2 := hown3.frozen 0; have hz3 := hg3.size)
        | (at_make; refine wpList_mk _ rfl _ _ rfl w1.heap.size _ _ (k + 1) rfl rfl (by omega) (by omega) (by omega) (by simp; omega) ?_; intro w4 hown4 hg4; simp only [World.setCell, Array.size_modify] at hown4; have f3 := hown4.zero (by omega); have f4 := hown4.frozen 0; have hz4 := hg4.size))
      have hb34 : Below (w3.setCell ⟨w1.heap.size, 0, none⟩ (.int .u16 1)).heap.size (w3.setCell ⟨w1.heap.size, 0, none⟩ (.int .u16 1)) w4 := (Below.refl _ _).grown hg4 (Nat.le_refl _) (by simp)
      have hz34 : w3.heap.size < w4.heap.size := by
        obtain ⟨g, e, _, h⟩ := hown4.form (by omega)
        injection e with e; injection e with e; omega
      have hz13 : w1.heap.size < w3.heap.size := by
        obtain ⟨g, e, _, h⟩ := hown3.form (by omega)
        injection e with e; injection e with e; omega
      have O1 := Lib.hid ((((hown3.store 0 1 rfl)).below hb34).far (p := ⟨w3.heap.size, 0, none⟩) (by show w1.heap.size ≠ w3.heap.size; omega) (.int .u16 (x.nat : Int)))
      have O2 := Lib.hid (hown4.store 0 x rfl)
      have hB4 : Below w1.heap.size w1 (w4.setCell ⟨w3.heap.size, 0, none⟩ (.int .u16 (x.nat : Int))) :=
        (((((Below.refl _ _).grown hg3 (Nat.le_refl _) (by simp)).setCell (p := ⟨w1.heap.size, 0, none⟩) (Nat.le_refl _) (.int .u16 1)).trans (hb34.mono (by simp; omega))).setCell (p := ⟨w3.heap.size, 0, none⟩) (by show w1.heap.size ≤ w3.heap.size; omega) _)
      have HB4 := Lib.hid hB4
      clear hB4 hb34 hown3 hown4 hg3 hg4 f1 f2 f3 f4
      generalize w4.setCell ⟨w3.heap.size, 0, none⟩ (.int .u16 (x.nat : Int)) = w5 at O1 O2 HB4 ⊢
      rw [one_zeros] at O1 O2
      refine (check_ok _ (k + 1) (k + 1) r (1 :: List.replicate k 0) _ (by simp) (by exact O1.out.rd) (by omega)).mono ?_
      rintro e w6 ⟨A6, c6, rfl, hm6, hb6⟩
      rw [checkL_length]
      have R6 := Lib.hid hm6.rd
      have O26 := Lib.hid (O2.out.below hb6)
      have HB6 := Lib.hid (bstep HB4.out (Nat.le_refl _) hb6)
      clear hm6 hb6 O1 O2 HB4
      go_wp2_with fail
      refine (check_ok _ (k + 1) (k + 1) r (x :: List.replicate k 0) _ (by simp) (by exact O26.out.rd) (by omega)).mono ?_
      rintro e w7 ⟨A7, c7, rfl, hm7, hb7⟩
      rw [checkL_length]
      have R7 := Lib.hid hm7.rd
      have R67 := Lib.hid ((R6.out.below hb7).more hb7.size)
      have HB7 := Lib.hid (bstep HB6.out (Nat.le_refl _) hb7)
      have hsm := HST.out _ HB7.out
      clear hm7 hb7 O26 HB6 R6
      go_wp2_with fail
      go_loopw [20] (fun i wr => ∃ i' : Nat, i' ≤ r ∧ i = .int .i64 i' ∧ Below w7.heap.size w7 wr) (fun i _ => r - (intOf i).toNat)
      case atStart => exact ⟨0, by omega, rfl, Below.refl _ _⟩
      case round =>
        obtain ⟨j, hj, rfl, hbj⟩ := hrel
        clear hsm
        by_cases hjr : j < r
        · obtain ⟨b6, o6, rfl, hlt6, hc6⟩ := (R67.out.below hbj) (by rw [checkL_length]; omega)
          obtain ⟨b7, o7, rfl, hlt7, hc7⟩ := (R7.out.below hbj) (by rw [checkL_length]; omega)
          have d6 := hc6 j (by rw [checkL_length]; exact hjr)
          have d7 := hc7 j (by rw [checkL_length]; exact hjr)
          rw [HRK.out, tab_getD _ _ _ hjr] at d7
          have q1 : (0 : Int) ≤ (j : Int) := by omega
          have q2 : (j : Int) < (r : Int) := by omega
          clear hc6 hc7
          generalize (checkL (1 :: List.replicate k 0) r).getD j 0 = y at d6 d7
          go_wp2_with fail
          go_quiet ((go_at_call 20; exact qs (mul_any _ _ _ y x _ rfl rfl)))
          go_wp2
          go_roundw
          case rel => exact ⟨j + 1, by omega, by go_num, below_drewN hbj _⟩
          case measure => simp only [intOf]; omega
        · go_wp2
          go_ret
          exact ⟨rfl, bstep (bstep hbel (Nat.le_refl _) HB7.out) (Nat.le_refl _) hbj⟩

set_option maxHeartbeats 1000000 in
theorem one_long (A : Option Addr) (n c : Nat) (x : F) (m1 m2 : Int) (w : World) (hn2 : 254 < n) :
    Calls Try.prog 9 #[.slice A n c, .int .u16 x.nat, .int .i64 m1, .int .i64 m2] w fun e w' => e = .returned (.bool true) ∧ Below w.heap.size w w' := by
  have ht : decide ((254 : Int) < (n : Int)) = true := by simp; omega
  clear hn2
  go_enter Try.func9, Try.ntmps9
  go_wp2_with (first
    | (go_at_call 10; refine (works_any _).mono ?_; rintro e w' ⟨rfl, hbn⟩; (first | (replace hbw := bstep hbw (Nat.le_refl _) hbn; clear hbn) | (have hbw := hbn; clear hbn))))
  all_goals (go_ret; exact ⟨rfl, hbw⟩)

theorem one_walk (A : Option Addr) (n c : Nat) (x : F) (m1 m2 : Int) (l : List F) (w : World) (hl : l.length = n) (hrd : Rd w w.heap.size A l) :
    Calls Try.prog 9 #[.slice A n c, .int .u16 x.nat, .int .i64 m1, .int .i64 m2] w fun e w' => e = .returned (.bool true) ∧ Below w.heap.size w w' := by
  by_cases hn : 254 < n
  · exact one_long A n c x m1 m2 w hn
  · obtain ⟨k, hk, hk2⟩ := mod100 m1 60 (by omega) (by omega)
    obtain ⟨r, hr, hr2⟩ := mod100 m2 60 (by omega) (by omega)
    exact one_nat A n c x m1 m2 k r l w hl hrd hk (by omega) hr (by omega) (by omega)
end Go.Proofs.Ytnbekifcajmdkaa
