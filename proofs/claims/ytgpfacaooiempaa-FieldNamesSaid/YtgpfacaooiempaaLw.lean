/- The walks of the logs: the program's, and the document's. -/
import Derived.Test.YtgpfacaooiempaaRw
import Derived.Test.YtgpfacaooiempaaGl
import Derived.OwnWalk
namespace Go.Proofs.Ytgpfacaooiempaa
open Go.RowKit Go.Maps

theorem etup_ib {k : IntKind} {x y : Int} {b : Bool} (h : x = y) : Ending.returned (.tuple #[.int k x, .bool b]) = .returned (.tuple #[.int k y, .bool b]) := by rw [h]
theorem lit_inj {H : Type} {k : IntKind} {x y : Int} (h : (DataW.lit (.int k x) : DataW H) = .lit (.int k y)) : x = y := by injection h with h; injection h
def left65 (v : Value) : Nat := 65535 - (intOf v).toNat
theorem left65_lt {k : Nat} (h : k < 65535) : left65 (.int .i64 ((k : Int) + 1)) < left65 (.int .i64 k) := by unfold left65; simp only [intOf]; omega
theorem wrap64_small {k : Nat} (h : k < 65535) : wrap64 ((k : Int) + 1) = (k : Int) + 1 := IntWalk.wrap64_in _ ⟨by omega, by omega⟩
theorem law16 : Keyed Try.prog 25 := int_keyed Try.underlying25
theorem zero64 (w : World) : (zeroValue 3).run Try.prog w = .ok (.int .i64 0) w := by kernel_rfl

set_option maxHeartbeats 400000 in
theorem log_zero (p : Value) (w : World) :
    Calls Try.prog 17 #[p, .int .u16 0] w fun e w' => e = .returned (.tuple #[.int .i64 0, .bool false]) ∧ w = w' := by
  go_enter Try.func17, Try.ntmps17
  go_wp2
  go_ret2
  exact ⟨rfl, rfl⟩

set_option maxRecDepth 100000 in
set_option maxHeartbeats 1000000 in
theorem log_some (p : Value) (L : Nat) (w : World) (hL : L < 65535) :
    Calls Try.prog 17 #[p, .int .u16 (F.px L).nat] w fun e w' => e = .returned (.tuple #[.int .i64 L, .bool true]) ∧ Below w.heap.size w w' := by
  have hz : (((F.px L).nat : Int) == 0) = false := by rw [beq_eq_false_iff_ne]; intro e; exact F.px_ne_zero L (F.nat_eq_zero.1 (by omega))
  have hmm := @run_makeMap Try.prog
  go_enter Try.func17, Try.ntmps17
  go_wp2
  go_loopw [7, 8] (fun n p wr => ∃ k : Nat, k ≤ 256 ∧ n = .int .i64 k ∧ p = .int .u16 (F.px k).nat ∧ wr.ownsMap Try.prog 25 (plainElem Try.prog 3) w.heap.size k (Sm k) ∧ Below w.heap.size w wr)
    (fun n _ _ => 256 - (intOf n).toNat)
  case atStart => exact ⟨0, by omega, rfl, rfl, World.ownsMap_made _ _ _ _, (Below.refl _ _).alloc (Nat.le_refl _) _⟩
  case round =>
    obtain ⟨k, hk, rfl, rfl, hown, hnx⟩ := hrel
    have hkey : keyOf Try.prog 25 (.int .u16 (F.px k).nat) = some (fk (F.px k)) := keyOf_int_mk Try.underlying25 (F.wf16 _)
    by_cases hlt : k < 256
    · go_wp2_with (first
        | (at_mapUpdate; refine wpList_mapUpdate_own _ rfl _ _ _ 44 rfl 25 3 law16 Try.underlying44 _ w.heap.size k _ rfl hown (by unfold maxLen; omega) _ _ _ rfl rfl hkey _ [] (plainElem_int Try.underlying3 (WalkArith.wf_i64 ⟨by omega, by omega⟩)) ?_; intro w1 hown1 hgrow1)
        | (go_at_call 13; refine (mul_any _ _ _ (F.px k) (F.px 1) _ rfl rfl).mono ?_; rintro e w' ⟨rfl, rfl⟩))
      go_roundw
      case rel => exact ⟨k + 1, by omega, by go_num, by rw [F.px_add k 1], hown1, hnx.grown hgrow1 hnx.size (fun j hj => by cases hj; exact Nat.le_refl _)⟩
      case measure => simp only [intOf]; omega
    · obtain rfl : k = 256 := by omega
      clear hkey
      go_wp2_with (go_at_call 15; refine (exp_any _ _ _).mono ?_; rintro e w' ⟨rfl, rfl⟩)
      go_loop [1, 10] (fun x n => ∃ j : Nat, 256 * j ≤ L ∧ x = .int .u16 (F.px (L - 256 * j)).nat ∧ n = .int .i64 ((256 * j : Nat) : Int)) (fun _ n => L - (intOf n).toNat)
      case atStart => exact ⟨0, by omega, rfl, rfl⟩
      case round =>
        obtain ⟨j, hj, rfl, rfl⟩ := hrel
        have hkey : keyOf Try.prog 25 (.int .u16 (F.px (L - 256 * j)).nat) = some (fk (F.px (L - 256 * j))) := keyOf_int_mk Try.underlying25 (F.wf16 _)
        by_cases hin : L - 256 * j < 256
        · have hh : Maps.has (Sm 256) (fk (F.px (L - 256 * j))) = true := Sm_has 256 _ hin
          have HA := Lib.hid (Sm_at 256 (by omega) (L - 256 * j) hin (.lit (.int .i64 0)))
          go_wp2_with (at_lookup; refine wpList_lookup_own_ok_int _ rfl _ _ 44 rfl 25 3 .i64 law16 Try.underlying44 Try.underlying3 (zero64 _) w.heap.size 256 _ rfl hown _ _ rfl hkey ?_; intro c hat hwc; obtain rfl : c = ((L - 256 * j : Nat) : Int) := lit_inj (hat.symm.trans HA.out); clear hat)
          go_ret2
          exact ⟨etup_ib (by omega), hnx⟩
        · have HN := Lib.hid (show ∀ i, i < 256 → F.px i ≠ F.px (L - 256 * j) from fun i hi e => by have := F.px_inj (by omega) (by omega) e; omega)
          have hh : Maps.has (Sm 256) (fk (F.px (L - 256 * j))) = false := Sm_has_not 256 _ HN.out
          have HB := Lib.hid (back_step (L - 256 * j) (by omega))
          go_wp2_with (first
            | (at_lookup; refine wpList_lookup_own_ok_int _ rfl _ _ 44 rfl 25 3 .i64 law16 Try.underlying44 Try.underlying3 (zero64 _) w.heap.size 256 _ rfl hown _ _ rfl hkey ?_; intro c hat hwc; clear hat)
            | (go_at_call 13; refine (mul_any _ _ _ _ (F.px 65279) _ rfl rfl).mono ?_; rintro e w' ⟨rfl, rfl⟩))
          go_round
          case rel => exact ⟨j + 1, by omega, by rw [HB.out]; congr 4, vint (by omega)⟩
          case measure => simp only [intOf]; omega

set_option maxHeartbeats 400000 in
theorem log_any (p : Value) (x : Int) (a : F) (w : World) (hx : x = a.nat) :
    Calls Try.prog 17 #[p, .int .u16 x] w fun e w' => e = .returned (.tuple #[.int .i64 (F.logn a), .bool (!decide (a = 0))]) ∧ Below w.heap.size w w' := by
  subst hx
  by_cases h : a = 0
  · subst h
    refine (log_zero p w).mono fun e w' he => ?_
    obtain ⟨rfl, rfl⟩ := he
    exact ⟨by rw [F.logn_zero]; rfl, Below.refl _ _⟩
  · have h1 := log_some p (F.logn a) w (F.logn_lt a)
    rw [F.px_logn h] at h1
    refine h1.mono fun e w' he => ?_
    obtain ⟨rfl, hb⟩ := he
    exact ⟨by rw [decide_eq_false h]; rfl, hb⟩

def Lrel (a : F) (x n : Value) : Prop := ∃ k : Nat, k ≤ 65535 ∧ (∀ i, i < k → F.px i ≠ a) ∧ x = .int .u16 (F.px k).nat ∧ n = .int .i64 k
theorem Lrel_next {a : F} {k : Nat} {y : Int} (h1 : k < 65535) (h2 : ∀ i, i < k → F.px i ≠ a) (h3 : F.px k ≠ a) (hy : y = (F.mx (F.px k)).nat) : Lrel a (.int .u16 y) (.int .i64 ((k : Int) + 1)) := by
  subst hy
  refine ⟨k + 1, by omega, fun i hi => ?_, rfl, rfl⟩
  by_cases e : i = k
  · rw [e]; exact h3
  · exact h2 i (by omega)
set_option maxHeartbeats 400000 in
theorem rlog_any (x : Int) (a : F) (w : World) (hx : x = a.nat) :
    Calls Try.prog 19 #[.int .u16 x] w fun e w' => e = .returned (.tuple #[.int .i64 (F.logn a), .bool (!decide (a = 0))]) ∧ w = w' := by
  subst hx
  go_enter Try.func19, Try.ntmps19
  go_wp2
  go_loop [4, 5] (fun x n => Lrel a x n) (fun _ n => left65 n)
  case atStart => exact ⟨0, by omega, fun i hi => by omega, rfl, rfl⟩
  case round =>
    obtain ⟨k, hk, hne, rfl, rfl⟩ := hrel
    have HNE := Lib.hid hne
    have HK := Lib.hid hk
    clear hne hk
    by_cases hlt : k < 65535
    · have ht1 : decide ((k : Int) < 65535) = true := by simp; omega
      have HLT := Lib.hid hlt
      clear hlt
      by_cases he : F.px k = a
      · have ht : (((F.px k).nat : Int) == (a.nat : Int)) = true := by rw [he]; exact beq_self_eq_true _
        have HE := Lib.hid he
        clear he
        go_wp2
        go_ret2
        exact ⟨by rw [← HE.out, F.logn_px HLT.out, decide_eq_false (F.px_ne_zero k)]; rfl, rfl⟩
      · have ht : (((F.px k).nat : Int) == (a.nat : Int)) = false := by rw [beq_eq_false_iff_ne]; intro e; exact he (F.nat_inj (by omega))
        have HE := Lib.hid he
        clear he
        by_cases hh : (F.px k).nat / 32768 = 1
        · have ht2 : decide (32768 ≤ ((F.px k).nat : Int)) = true := by simp; omega
          have HH := Lib.hid hh
          clear hh
          go_wp2
          have hw : wrap64 ((k : Int) + 1) = (k : Int) + 1 := wrap64_small HLT.out
          go_round
          case rel => rw [hw]; exact Lrel_next HLT.out HNE.out HE.out (u16_twice_xor _ HH.out)
          case measure => rw [hw]; exact left65_lt HLT.out
        · have ht2 : decide (32768 ≤ ((F.px k).nat : Int)) = false := by have := (F.px k).nat_lt; simp; omega
          have HH := Lib.hid hh
          clear hh
          go_wp2
          have hw : wrap64 ((k : Int) + 1) = (k : Int) + 1 := wrap64_small HLT.out
          go_round
          case rel => rw [hw]; exact Lrel_next HLT.out HNE.out HE.out (u16_twice _ HH.out)
          case measure => rw [hw]; exact left65_lt HLT.out
    · have ht1 : decide ((k : Int) < 65535) = false := by simp; omega
      have HLT := Lib.hid hlt
      clear hlt
      go_wp2
      go_ret2
      have hz : a = 0 := by
        by_cases h : a = 0
        · exact h
        · exact absurd (F.px_logn h) (HNE.out _ (by have := F.logn_lt a; have := HLT.out; omega))
      exact ⟨by rw [hz, F.logn_zero]; rfl, rfl⟩
end Go.Proofs.Ytgpfacaooiempaa
