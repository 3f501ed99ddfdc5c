/- The walks of the words with checks: the product of roots, values, checks, whether a word is right. -/
import Derived.Test.YthejbmjleohlfaaOw
import Derived.Test.YthejbmjleohlfaaRsm
namespace Go.Proofs.Ythejbmjleohlfaa
open Go.RowKit

theorem exp_k (p : Value) (k : Nat) (w : World) : Calls Try.prog 47 #[p, .int .i64 k] w fun e w' => e = .returned (.int .u16 (F.px k).nat) ∧ w = w' :=
  (exp_any p k w).mono fun _ _ ⟨he, hw⟩ => ⟨by rw [he, F.px_mod k]; rfl, hw⟩

/-- Handed back: a slice that the call made. -/
def RetOwn (w : World) (l : List F) (e : Ending) (w' : World) : Prop := ∃ A c, e = .returned (.slice A l.length c) ∧ Own w' w.heap.size A l.length c l ∧ Below w.heap.size w w'

/-- Between the old list and the new one, down to i. -/
def Mix (i : Nat) (old new cur : List F) : Prop := cur.length = old.length ∧ ∀ t, t < old.length → cur.getD t 0 = if t ≤ i then old.getD t 0 else new.getD t 0
theorem mix_step {i : Nat} {old new cur : List F} (h : Mix i old new cur) (hi : 0 < i) (hl : i < old.length) {a : F} (ha : a = new.getD i 0) : Mix (i - 1) old new (cur.set i a) := by
  refine ⟨by rw [List.length_set]; exact h.1, fun t ht => ?_⟩
  by_cases e : i = t
  · subst e
    rw [getD_set_eq a (by rw [h.1]; exact hl), if_neg (by omega), ha]
  · rw [getD_set_ne a e, h.2 t ht]
    by_cases h1 : t ≤ i
    · rw [if_pos h1, if_pos (by omega)]
    · rw [if_neg h1, if_neg (by omega)]
theorem mix_done {old new cur : List F} (h : Mix 0 old new cur) (hl : new.length = old.length) (h0 : old.getD 0 0 = new.getD 0 0) : cur = new := by
  refine ext_getD (by rw [h.1, hl]) fun j hj => ?_
  rw [h.2 j (by rw [← h.1]; exact hj)]
  by_cases h1 : j ≤ 0
  · obtain rfl : j = 0 := by omega
    rw [if_pos h1, h0]
  · rw [if_neg h1]
theorem mulRoot_at {g : List F} {p : F} {i : Nat} (hi : 0 < i) (hl : i < g.length + 1) : (g ++ [0]).getD i 0 + (g ++ [0]).getD (i - 1) 0 * p = (mulRoot g p).getD i 0 := by
  rw [mulRoot, tab_getD _ _ _ hl, if_neg (by omega), ← tab_append_zero, tab_getD _ _ _ hl, tab_getD _ _ _ (by omega)]
theorem mulRoot_zero (g : List F) (p : F) : (g ++ [0]).getD 0 0 = (mulRoot g p).getD 0 0 := by
  rw [mulRoot, tab_getD _ _ _ (by omega), if_pos rfl, F.add_zero, ← tab_append_zero, tab_getD _ _ _ (by omega)]

set_option maxRecDepth 100000 in
set_option maxHeartbeats 2000000 in
theorem base_any (p : Value) (r : Nat) (w : World) (hr : r ≤ 255) :
    Calls Try.prog 34 #[p, .int .i64 r] w (RetOwn w (baseL r)) := by
  go_enter Try.func34, Try.ntmps34
  go_wp2
  go_loopw [5, 11] (fun v j wr => ∃ (k : Nat) (A : Option Addr) (c : Nat), k ≤ r ∧ j = .int .i64 k ∧ v = .slice A (k + 1) c ∧ Own wr w.heap.size A (k + 1) c (baseL k) ∧ Below w.heap.size w wr) (fun _ j _ => r - (intOf j).toNat)
  case atStart => exact ⟨0, _, _, by omega, rfl, rfl, Own.lit w w.heap.size [1] _ (Nat.le_refl _) (by decide) rfl, balloc _ _⟩
  case round =>
    obtain ⟨k, A, c, hk, rfl, rfl, hown, hbel⟩ := hrel
    by_cases hlt : k < r
    · have hlen := hown.len
      have HLEN := Lib.hid hlen
      clear hlen
      go_wp2_with (first
        | (go_at_call 47; refine (exp_k _ k _).mono ?_; rintro e w' ⟨rfl, rfl⟩)
        | (at_builtin; refine wpList_push _ rfl (.tmp 17) (.tmp 18) rfl w.heap.size _ _ _ _ rfl (hown.alloc _) wr.heap.size 1 (0 : F) 0 rfl rfl (by go_cell) (by omega) (by have := hbel.size; simp; omega) ?_; intro A' c' w1 hown1 hb1 hg1))
      have hbel1 : Below w.heap.size w w1 := (hbel.alloc hbel.size _).trans hb1
      obtain ⟨g, rfl, hgB, hgw⟩ := hown1.form (by omega)
      clear hown hbel hb1 hg1
      go_loopw [8] (fun i wr2 => ∃ (i' : Nat) (cur : List F), i' ≤ k + 1 ∧ i = .int .i64 i' ∧ Own wr2 w.heap.size (some ⟨g, 0, none⟩) (k + 1 + 1) c' cur ∧ Mix i' (baseL k ++ [0]) (mulRoot (baseL k) (F.px k)) cur ∧ Below w.heap.size w wr2) (fun i _ => (intOf i).toNat)
      case atStart => exact ⟨k + 1, _, by omega, rfl, hown1, ⟨rfl, fun t ht => by rw [if_pos (by rw [List.length_append, HLEN.out] at ht; simp at ht; omega)]⟩, hbel1⟩
      case round =>
        obtain ⟨i, cur, hi, rfl, hown2, hmix, hbel2⟩ := hrel
        have HM := Lib.hid hmix
        clear hmix hown1 hbel1
        by_cases hpos : 0 < i
        · have c1 := hown2.cell (j := i) (by omega)
          have c2 := hown2.cell (j := i - 1) (by omega)
          have hfz := hown2.frozen i
          have hx : cur.getD i 0 + cur.getD (i - 1) 0 * F.px k = (mulRoot (baseL k) (F.px k)).getD i 0 := by
            rw [HM.out.2 i (by rw [List.length_append, HLEN.out]; simp; omega), HM.out.2 (i - 1) (by rw [List.length_append, HLEN.out]; simp; omega), if_pos (Nat.le_refl _), if_pos (by omega)]
            exact mulRoot_at hpos (by rw [HLEN.out]; omega)
          have HX := Lib.hid hx
          clear hx
          generalize cur.getD i 0 = x1 at c1 HX
          generalize cur.getD (i - 1) 0 = x0 at c2 HX
          have q1 : (0 : Int) ≤ (i : Int) := by omega
          have q2 : (i : Int) < (k : Int) + 1 + 1 := by omega
          have q3 : IntKind.i64.wrap ((i : Int) - 1) = (i : Int) - 1 := IntWalk.i64_in _ ⟨by omega, by omega⟩
          have q4 : (1 : Int) ≤ (i : Int) := by omega
          have q5 : (i : Int) - 1 < (k : Int) + 1 + 1 := by omega
          have q6 : ((i : Int) - 1).toNat = i - 1 := by omega
          go_wp2
          refine region_tail 17 (by kernel_rfl) (by kernel_rfl) ?_
          simp only [List.take_succ_cons, List.take_zero, List.drop_succ_cons, List.drop_zero]
          repeat (first
            | still_step
            | still_call (stillOf (mul_any _ _ _ x0 (F.px k) _ rfl rfl))
            | still_call (stillOf (add_any _ _ _ x1 (x0 * F.px k) _ rfl rfl)))
          refine wpStill_nil ?_
          go_wp2
          go_roundw
          case rel => exact ⟨i - 1, cur.set i (x1 + x0 * F.px k), by omega, vint (by omega), (hown2.store i _ rfl).drew, mix_step HM.out hpos (by rw [List.length_append, HLEN.out]; simp; omega) HX.out, (hbel2.setCell (p := ⟨g, i, none⟩) hgB _).drew⟩
          case measure => simp only [intOf]; omega
        · obtain rfl : i = 0 := by omega
          have hdone := mix_done HM.out (by rw [mulRoot_length, List.length_append]; rfl) (mulRoot_zero _ _)
          subst hdone
          go_wp2
          go_roundw
          case rel => exact ⟨k + 1, _, _, by omega, by go_num, rfl, hown2, hbel2⟩
          case measure => simp only [intOf]; omega
    · obtain rfl : k = r := by omega
      go_wp2
      go_ret
      have hl := baseL_length k
      exact ⟨A, c, by rw [hl]; rfl, by rw [hl]; exact hown, hbel⟩

/-- A word's values at the first r powers of x. -/
def sumsL (l : List F) (r : Nat) : List F := tab r (fun j => hv l (F.px j))
/-- Handed back: a slice that the call made, and no error. -/
def RetOwn2 (w : World) (l : List F) (e : Ending) (w' : World) : Prop := ∃ A c, e = .returned (.tuple #[.slice A l.length c, .int .i64 0]) ∧ Own w' w.heap.size A l.length c l ∧ Below w.heap.size w w'

/-- The values so far: those before j are there, those behind it are 0. -/
def Upto (f : Nat → F) (j r : Nat) (cur : List F) : Prop := cur.length = r ∧ ∀ t, t < r → cur.getD t 0 = if t < j then f t else 0
theorem upto_start (f : Nat → F) (r : Nat) : Upto f 0 r (List.replicate r 0) := ⟨List.length_replicate, fun t _ => by rw [getD_replicate, if_neg (by omega)]⟩
theorem upto_next {f : Nat → F} {j r : Nat} {cur : List F} (h : Upto f j r cur) (hj : j < r) {a : F} (ha : a = f j) : Upto f (j + 1) r (cur.set j a) := by
  refine ⟨by rw [List.length_set]; exact h.1, fun t ht => ?_⟩
  by_cases e : j = t
  · subst e; rw [getD_set_eq a (by rw [h.1]; exact hj), if_pos (by omega), ha]
  · rw [getD_set_ne a e, h.2 t ht]
    by_cases h1 : t < j
    · rw [if_pos h1, if_pos (by omega)]
    · rw [if_neg h1, if_neg (by omega)]
theorem upto_done {f : Nat → F} {r : Nat} {cur : List F} (h : Upto f r r cur) : cur = tab r f := tab_ext h.1 fun j hj => by rw [h.2 j hj, if_pos hj]
theorem upto_here {f : Nat → F} {j r : Nat} {cur : List F} (h : Upto f j r cur) (hj : j < r) : cur.getD j 0 = 0 := by rw [h.2 j hj, if_neg (by omega)]
theorem hv_take {l : List F} {i : Nat} (hi : i < l.length) (x : F) : hv (l.take (i + 1)) x = hv (l.take i) x * x + l.getD i 0 := by
  rw [List.take_succ_eq_append_getElem hi, hv_snoc, List.getD, List.getElem?_eq_getElem hi]; rfl
theorem set_set_F (l : List F) (j : Nat) (a b : F) : (l.set j a).set j b = l.set j b := List.set_set ..
theorem etup_sn {A : Option Addr} {n m c : Nat} {z : Int} (h : n = m) : Ending.returned (.tuple #[.slice A n c, .int .i64 z]) = .returned (.tuple #[.slice A m c, .int .i64 z]) := by rw [h]

set_option maxRecDepth 100000 in
set_option maxHeartbeats 2000000 in
theorem sums_ok (A : Option Addr) (n c r : Nat) (l : List F) (w : World) (hl : l.length = n) (hrd : Rd w w.heap.size A l) (hn : n ≤ 255) (hr : r ≤ 255) :
    Calls Try.prog 37 #[.slice A n c, .int .i64 r] w (RetOwn2 w (sumsL l r)) := by
  have t1 : decide ((255 : Int) < (n : Int)) = false := by simp; omega
  have t2 : decide ((r : Int) < 0) = false := by simp
  have t3 : decide ((255 : Int) < (r : Int)) = false := by simp; omega
  have HL := Lib.hid hl
  have HRD := Lib.hid hrd
  clear hl hrd
  go_enter Try.func37, Try.ntmps37
  go_wp2_with (first
    | (go_at_call 33; refine (new_any _).mono ?_; rintro e w' ⟨rfl, rfl⟩)
    | (at_make; refine wpList_mk _ rfl _ _ rfl w.heap.size _ _ r rfl rfl rfl rfl (by omega) (by simp) ?_; intro w1 hown hg))
  have hbel : Below w.heap.size w w1 := (balloc w _).grown hg (by simp) (by simp)
  clear hg
  go_loopw [28] (fun j wr => ∃ (k : Nat) (cur : List F), k ≤ r ∧ j = .int .i64 k ∧ Own wr w.heap.size (some ⟨w.heap.size + 1, 0, none⟩) r r cur ∧ Upto (fun j => hv l (F.px j)) k r cur ∧ Below w.heap.size w wr) (fun j _ => r - (intOf j).toNat)
  case atStart => exact ⟨0, _, by omega, rfl, by simpa using hown, upto_start _ _, hbel⟩
  case round =>
    obtain ⟨k, cur, hk, rfl, hown, hup, hbel⟩ := hrel
    have HUP := Lib.hid hup
    clear hup
    by_cases hlt : k < r
    · go_wp2_with (go_at_call 47; refine (exp_k _ k _).mono ?_; rintro e w' ⟨rfl, rfl⟩)
      go_loopw [36] (fun i wr2 => ∃ (i' : Nat), i' ≤ n ∧ i = .int .i64 i' ∧ Own wr2 w.heap.size (some ⟨w.heap.size + 1, 0, none⟩) r r (cur.set k (hv (l.take i') (F.px k))) ∧ Below w.heap.size w wr2) (fun i _ => n - (intOf i).toNat)
      case atStart =>
        refine ⟨0, by omega, rfl, ?_, hbel⟩
        have : cur.set k (hv (l.take 0) (F.px k)) = cur := ext_getD (by rw [List.length_set]) fun j hj => by
          by_cases e : k = j
          · subst e
            rw [getD_set_eq _ (by rw [HUP.out.1]; exact hlt), upto_here HUP.out hlt]; rfl
          · rw [getD_set_ne _ e]
        rw [this]; exact hown
      case round =>
        obtain ⟨i, hi, rfl, hown2, hbel2⟩ := hrel
        by_cases hin : i < n
        · obtain ⟨b, off, rfl, hb, hc⟩ := (HRD.out.below hbel2) (by rw [HL.out]; omega)
          have c1 := hc i (by rw [HL.out]; exact hin)
          have c2 := hown2.cell hlt
          have hfz := hown2.frozen k
          have hx := hv_take (l := l) (by rw [HL.out]; exact hin) (F.px k)
          rw [getD_set_eq _ (by rw [HUP.out.1]; exact hlt)] at c2
          have HX := Lib.hid hx
          clear hx hc
          generalize l.getD i 0 = x at c1 HX
          have hown3 := hown2.store k (hv (l.take (i + 1)) (F.px k)) (z := ((hv (l.take i) (F.px k) * F.px k + x : F).nat : Int)) (by rw [HX.out])
          rw [set_set_F] at hown3
          have HO := Lib.hid hown3
          clear hown3
          generalize hv (l.take i) (F.px k) = v at c2 HX HO
          go_wp2_with (first
            | (go_at_call 36; refine (mul_any _ _ _ _ _ _ rfl rfl).mono ?_; rintro e w' ⟨rfl, rfl⟩)
            | (go_at_call 35; refine (add_any _ _ _ _ _ _ rfl rfl).mono ?_; rintro e w' ⟨rfl, rfl⟩))
          go_roundw
          case rel => exact ⟨i + 1, by omega, by go_num, HO.out, hbel2.setCell (p := ⟨w.heap.size + 1, k, none⟩) (by simp) _⟩
          case measure => simp only [intOf]; omega
        · obtain rfl : i = n := by omega
          go_wp2
          go_roundw
          case rel => exact ⟨k + 1, _, by omega, by go_num, hown2, upto_next HUP.out hlt (by rw [List.take_of_length_le (by rw [HL.out]; omega)]), hbel2⟩
          case measure => simp only [intOf]; omega
    · obtain rfl : k = r := by omega
      go_wp2
      go_ret2
      have hl := tab_length k (fun j => hv l (F.px j))
      have hd := upto_done HUP.out
      refine ⟨_, _, etup_sn hl.symm, ?_, hbel⟩
      have e : sumsL l k = cur := hd.symm
      rw [e, hown.len]; exact hown

set_option maxHeartbeats 400000 in
theorem sums_bad (A : Option Addr) (n c : Nat) (r : Int) (w : World) (h : 255 < n ∨ r < 0 ∨ 255 < r) :
    Calls Try.prog 37 #[.slice A n c, .int .i64 r] w fun e w' => e = .returned (.tuple #[.slice none 0 0, .int .i64 1]) ∧ w = w' := by
  by_cases h1 : 255 < n
  · have t1 : decide ((255 : Int) < (n : Int)) = true := by simp; omega
    clear h h1
    go_enter Try.func37, Try.ntmps37
    go_wp2
    go_ret2
    exact ⟨rfl, rfl⟩
  · have t1 : decide ((255 : Int) < (n : Int)) = false := by simp; omega
    by_cases h2 : r < 0
    · have t2 : decide (r < 0) = true := by simp; omega
      clear h h1 h2
      go_enter Try.func37, Try.ntmps37
      go_wp2
      go_ret2
      exact ⟨rfl, rfl⟩
    · have t2 : decide (r < 0) = false := by simp; omega
      have t3 : decide ((255 : Int) < r) = true := by simp; omega
      clear h h1 h2
      go_enter Try.func37, Try.ntmps37
      go_wp2
      go_ret2
      exact ⟨rfl, rfl⟩
end Go.Proofs.Ythejbmjleohlfaa
