/- The walk of the statement RsRight: data with their checks are right; with one symbol another one they are not. -/
import Derived.Test.YtnbekifcajmdkaaWRsFewer
import Derived.Test.YtnbekifcajmdkaaWRsAhead
namespace Go.Proofs.Ytnbekifcajmdkaa
open Go.RowKit

theorem hv_set (l : List F) (k : Nat) (hk : k < l.length) (x y : F) : hv (l.set k x) y = hv l y + (l.getD k 0 + x) * F.pow y (l.length - 1 - k) := by
  rw [hv_sum, hv_sum, List.length_set]
  have e : ∀ i, i < l.length → (l.set k x).getD i 0 * F.pow y (l.length - 1 - i) = l.getD i 0 * F.pow y (l.length - 1 - i) + (if i = k then (l.getD k 0 + x) * F.pow y (l.length - 1 - i) else 0) := by
    intro i _
    by_cases h : i = k
    · subst h
      rw [if_pos rfl, getD_set_eq x hk, ← F.add_mul, ← F.add_assoc, F.add_self, F.zero_add]
    · rw [if_neg h, getD_set_ne x (fun e => h e.symm), F.add_zero]
  rw [fsum_congr e, fsum_add]
  congr 1
  rw [fsum_one k hk _ (fun i _ hne => by rw [if_neg hne]), if_pos rfl]
theorem sums_set (w : List F) (r k j : Nat) (hw : Nought w r) (hk : k < w.length) (hj : j < r) (x : F) : (sumsL (w.set k x) r).getD j 0 = (w.getD k 0 + x) * F.px (j * (w.length - 1 - k)) := by
  rw [sumsL, tab_getD _ _ _ hj, hv_set w k hk, hw j hj, F.zero_add, F.px_mul]
theorem right_set (w : List F) (r k : Nat) (hw : Nought w r) (hk : k < w.length) (hl : w.length ≤ 255) (hr : 0 < r) (hrl : r ≤ w.length) (x : F) : rightB (w.set k x) (r : Int) = decide (w.getD k 0 = x) := by
  refine bool_iff ?_
  rw [rightB_iff (by rw [List.length_set]; exact hl), List.length_set, decide_eq_true_iff]
  constructor
  · rintro ⟨_, h⟩
    have h0 := h 0 hr
    rw [hv_set w k hk, hw 0 hr, F.zero_add, F.px_zero, F.one_pow, F.mul_one] at h0
    exact F.add_eq_zero.1 h0
  · intro h
    refine ⟨hrl, fun j hj => ?_⟩
    rw [hv_set w k hk, hw j hj, F.zero_add, h, F.add_self, F.zero_mul]
theorem mul_small (j m : Nat) (hj : j ≤ 255) (hm : m ≤ 255) : IntKind.i64.wrap ((j : Int) * (m : Int)) = ((j * m : Nat) : Int) := by
  have h : j * m ≤ 255 * 255 := Nat.mul_le_mul hj hm
  rw [IntWalk.i64_in _ ⟨by rw [← Int.natCast_mul]; omega, by rw [← Int.natCast_mul]; omega⟩, Int.natCast_mul]

set_option maxRecDepth 100000 in
set_option maxHeartbeats 8000000 in
theorem right_nat (A : Option Addr) (n c : Nat) (r : Nat) (m : Int) (x : F) (l : List F) (w : World) (hl : l.length = n) (hrd : Rd w w.heap.size A l) (hm : n ≤ 9223372036854775807) :
    Calls Try.prog 5 #[.slice A n c, .int .i64 r, .int .i64 m, .int .u16 x.nat] w fun e w' => e = .returned (.bool true) ∧ Below w.heap.size w w' := by
  have HL := Lib.hid hl
  have HRD := Lib.hid hrd
  clear hl hrd
  go_enter Try.func5, Try.ntmps5
  go_wp2_with (first
    | (go_at_call 10; refine (works_any _).mono ?_; rintro e w' ⟨rfl, hbn⟩; (first | (replace hbw := bstep hbw (Nat.le_refl _) hbn; clear hbn) | (have hbw := hbn; clear hbn))))
  all_goals first | (go_ret; exact ⟨rfl, hbw⟩) | skip
  have hn2 : n ≤ 255 := by omega
  have hs2 : n + r ≤ 255 := by omega
  have hws := hbw.size
  refine (word_any A n c r l _ HL.out (by exact (HRD.out.below hbw).more hbw.size) (by omega)).mono ?_
  rintro e w5 ⟨A5, c5, rfl, hown5, hb5⟩
  have HW := Lib.hid (show (wordL l r).length = n + r by rw [wordL_length, HL.out])
  have HNO := Lib.hid (show Nought (wordL l r) r from fun j hj => hv_word l r j hj)
  have HRW := Lib.hid (right_word l r r (by rw [HL.out]; exact hs2) (Nat.le_refl _))
  rw [HW.out] at hown5 ⊢
  generalize wordL l r = wl at HW HNO HRW hown5
  replace hbw := bstep hbw (Nat.le_refl _) hb5
  go_wp2_with fail
  refine (right_any A5 (n + r) c5 r wl _ HW.out (by exact hown5.rd)).mono ?_
  rintro e w6 ⟨rfl, hb6⟩
  rw [HRW.out]
  have hown6 := hown5.below hb6
  have HO6 := Lib.hid hown6
  replace hbw := bstep hbw (Nat.le_refl _) hb6
  clear hown5 hb5 hb6 hown6
  by_cases h0 : n + r = 0
  · have ht1 : ((n : Int) + (r : Int) == 0) = true := by rw [beq_iff_eq]; omega
    go_wp2_with fail
    go_ret
    exact ⟨rfl, hbw⟩
  · have ht1 : ((n : Int) + (r : Int) == 0) = false := by rw [beq_eq_false_iff_ne]; omega
    by_cases hr0 : r = 0
    · have ht2 : ((r : Int) == 0) = true := by rw [beq_iff_eq]; omega
      clear hr0
      go_wp2_with fail
      go_ret
      exact ⟨rfl, hbw⟩
    · have ht2 : ((r : Int) == 0) = false := by rw [beq_eq_false_iff_ne]; omega
      obtain ⟨k, hk, hk2⟩ := mod100 m ((n : Int) + r) (by omega) (by omega)
      obtain ⟨g, rfl, hgB, hgw⟩ := HO6.out.form (by omega)
      have c1 := HO6.out.cell (j := k) (by omega)
      have hfz := HO6.out.frozen k
      have hkn : k < n + r := by omega
      obtain ⟨was, hwas⟩ : ∃ was, was = wl.getD k 0 := ⟨_, rfl⟩
      rw [← hwas] at c1
      have HWAS := Lib.hid hwas
      clear hwas
      have HO7 := Lib.hid (HO6.out.store k x rfl)
      have hb7 := Lib.hid (hbw.setCell (p := ⟨g, k, none⟩) (by show w.heap.size ≤ g; omega) (.int .u16 (x.nat : Int)))
      go_wp2_with fail
      refine (sums_ok _ (n + r) c5 r (wl.set k x) _ (by rw [List.length_set, HW.out]) (by exact HO7.out.rd) (by omega) (by omega)).mono ?_
      rintro e w8 ⟨A8, c8, rfl, hown8, hb8⟩
      have hl8 : (sumsL (wl.set k x) r).length = r := tab_length _ _
      rw [hl8] at hown8 ⊢
      have HR8 := Lib.hid hown8.rd
      have hb9 := bstep hb7.out (Nat.le_refl _) hb8
      have HO8 := Lib.hid (HO7.out.below hb8)
      clear hown8 hb8 HO7 hb7 hbw HO6
      go_wp2_with (go_at_call 19; refine (new_any _).mono ?_; rintro e w' ⟨rfl, rfl⟩)
      go_loopw [16] (fun j wr => ∃ j' : Nat, j' ≤ r ∧ j = .int .i64 j' ∧ Below w8.heap.size w8 wr) (fun j _ => r - (intOf j).toNat)
      case atStart => exact ⟨0, by omega, rfl, balloc _ _⟩
      case round =>
        obtain ⟨j, hj, rfl, hbel⟩ := hrel
        by_cases hjr : j < r
        · obtain ⟨b8, o8, rfl, hlt8, hc8⟩ := (HR8.out.below hbel) (by rw [sumsL, tab_length]; omega)
          have c2 := hc8 j (by rw [sumsL, tab_length]; exact hjr)
          rw [sums_set wl r k j HNO.out (by rw [HW.out]; exact hkn) hjr x, HW.out, ← HWAS.out] at c2
          have q1 : (0 : Int) ≤ (j : Int) := by omega
          have q2 : (j : Int) < (r : Int) := by omega
          have q3 : IntKind.i64.wrap ((n : Int) + r - 1) = ((n + r - 1 : Nat) : Int) := by rw [IntWalk.i64_in _ ⟨by omega, by omega⟩]; omega
          have q4 : IntKind.i64.wrap (((n + r - 1 : Nat) : Int) - (k : Int)) = ((n + r - 1 - k : Nat) : Int) := by rw [IntWalk.i64_in _ ⟨by omega, by omega⟩]; omega
          have q5 := mul_small j (n + r - 1 - k) (by omega) (by omega)
          clear hc8
          generalize n + r - 1 - k = mm at q4 q5 c2
          generalize n + r - 1 = nn at q3 q4
          go_wp2_with fail
          go_quiet (first
            | (go_at_call 21; exact qs (add_any _ _ _ was x _ rfl rfl))
            | (go_at_call 22; exact qs (exp_k _ (j * mm) _))
            | (go_at_call 20; exact qs (mul_any _ _ _ (was + x) (F.px (j * mm)) _ rfl rfl)))
          go_wp2
          go_roundw
          case rel => exact ⟨j + 1, by omega, by go_num, below_drewN hbel _⟩
          case measure => simp only [intOf]; omega
        · have hre : j = r := by omega
          have hfin := right_set wl r k HNO.out (by rw [HW.out]; exact hkn) (by rw [HW.out]; omega) (by omega) (by rw [HW.out]; omega) x
          rw [← HWAS.out] at hfin
          have HF := Lib.hid hfin
          have HO9 := Lib.hid (HO8.out.below hbel)
          have hb10 := bstep hb9 (Nat.le_refl _) hbel
          have hte : ((was.nat : Int) == (x.nat : Int)) = decide (was = x) := by
            by_cases e : was = x
            · rw [feq e, decide_eq_true e]
            · rw [feq' e, decide_eq_false e]
          clear hfin hre
          go_wp2_with fail
          refine (right_any _ (n + r) c5 r (wl.set k x) _ (by rw [List.length_set, HW.out]) (by exact HO9.out.rd)).mono ?_
          rintro e w11 ⟨rfl, hb11⟩
          rw [HF.out]
          go_wp2_with fail
          go_ret
          exact ⟨ebool (by simp), bstep hb10 (Nat.le_refl _) hb11⟩

set_option maxHeartbeats 1000000 in
theorem right_neg (A : Option Addr) (n c : Nat) (r m : Int) (x : F) (w : World) (hm : n ≤ 9223372036854775807) (hr : r < 0) :
    Calls Try.prog 5 #[.slice A n c, .int .i64 r, .int .i64 m, .int .u16 x.nat] w fun e w' => e = .returned (.bool true) ∧ Below w.heap.size w w' := by
  go_enter Try.func5, Try.ntmps5
  go_wp2_with (first
    | (go_at_call 10; refine (works_any _).mono ?_; rintro e w' ⟨rfl, hbn⟩; (first | (replace hbw := bstep hbw (Nat.le_refl _) hbn; clear hbn) | (have hbw := hbn; clear hbn))))
  all_goals (go_ret; exact ⟨rfl, hbw⟩)

theorem right_walk (A : Option Addr) (n c : Nat) (r m : Int) (x : F) (l : List F) (w : World) (hl : l.length = n) (hrd : Rd w w.heap.size A l) (hm : n ≤ 9223372036854775807) :
    Calls Try.prog 5 #[.slice A n c, .int .i64 r, .int .i64 m, .int .u16 x.nat] w fun e w' => e = .returned (.bool true) ∧ Below w.heap.size w w' := by
  by_cases hr : r < 0
  · exact right_neg A n c r m x w hm hr
  · obtain ⟨r', rfl⟩ := Int.eq_ofNat_of_zero_le (show 0 ≤ r by omega)
    exact right_nat A n c r' m x l w hl hrd hm
end Go.Proofs.Ytnbekifcajmdkaa
