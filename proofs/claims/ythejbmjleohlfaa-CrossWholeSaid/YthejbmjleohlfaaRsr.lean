/- The walks of: whether a word is right; the same symbols; and what is refused. -/
import Derived.Test.YthejbmjleohlfaaRck
namespace Go.Proofs.Ythejbmjleohlfaa
open Go.RowKit

set_option maxHeartbeats 400000 in
theorem check_bad (A : Option Addr) (n c : Nat) (r : Int) (w : World) (h : r < 0 ∨ 255 < r ∨ 255 - r < (n : Int)) :
    Calls Try.prog 22 #[.slice A n c, .int .i64 r] w fun e w' => e = .returned (.tuple #[.slice none 0 0, .int .i64 1]) ∧ w = w' := by
  by_cases h1 : r < 0
  · have t1 : decide (r < 0) = true := by simp; omega
    clear h h1
    go_enter Try.func22, Try.ntmps22
    go_wp2
    go_ret2
    exact ⟨rfl, rfl⟩
  · have t1 : decide (r < 0) = false := by simp; omega
    by_cases h2 : 255 < r
    · have t2 : decide ((255 : Int) < r) = true := by simp; omega
      clear h h1 h2
      go_enter Try.func22, Try.ntmps22
      go_wp2
      go_ret2
      exact ⟨rfl, rfl⟩
    · have t2 : decide ((255 : Int) < r) = false := by simp; omega
      have t3 : decide ((255 : Int) - r < (n : Int)) = true := by simp; omega
      have b1 : 0 ≤ r := by omega
      have b2 : r ≤ 255 := by omega
      clear h h1 h2
      go_enter Try.func22, Try.ntmps22
      go_wp2
      go_ret2
      exact ⟨rfl, rfl⟩

/-- Some symbol is not 0. -/
def anyNz (l : List F) : Bool := l.any (fun x => decide (x ≠ 0))
theorem anyNz_false {l : List F} (h : anyNz l = false) (j : Nat) : l.getD j 0 = 0 := by
  by_cases hj : j < l.length
  · unfold anyNz at h
    rw [List.any_eq_false] at h
    have := h _ (List.getElem_mem hj)
    simp only [decide_eq_true_eq] at this
    rw [List.getD, List.getElem?_eq_getElem hj]
    exact Classical.byContradiction this
  · exact getD_out (by omega)
theorem anyNz_true {l : List F} (h : anyNz l = true) : ∃ k, k < l.length ∧ l.getD k 0 ≠ 0 ∧ ∀ j, j < k → l.getD j 0 = 0 := by
  induction l with
  | nil => cases h
  | cons x l ih =>
    by_cases hx : x = 0
    · subst hx
      have : anyNz l = true := by simpa [anyNz] using h
      obtain ⟨k, hk, h1, h2⟩ := ih this
      refine ⟨k + 1, by simp; omega, h1, fun j hj => ?_⟩
      cases j with
      | zero => rfl
      | succ j => exact h2 j (by omega)
    · exact ⟨0, by simp, hx, fun j hj => by omega⟩
theorem anyNz_iff {l : List F} : anyNz l = false ↔ ∀ j, j < l.length → l.getD j 0 = 0 := by
  constructor
  · intro h j _; exact anyNz_false h j
  · intro h
    cases e : anyNz l with
    | false => rfl
    | true => obtain ⟨k, hk, h1, _⟩ := anyNz_true e; exact absurd (h k hk) h1

set_option maxHeartbeats 400000 in
theorem nz_any (a : F) (w : World) : Calls Try.prog 39 #[.int .u16 a.nat] w fun e w' => e = .returned (.bool ((a.nat : Int) != 0)) ∧ w = w' := by
  go_enter Try.func39, Try.ntmps39
  go_wp2
  go_ret
  exact ⟨rfl, rfl⟩

set_option maxHeartbeats 1000000 in
theorem index_any (A : Option Addr) (n c B : Nat) (l : List F) (w : World) (hl : l.length = n) (hrd : Rd w B A l) (hn : n ≤ maxLen) (k : Nat) (hk : k ≤ n) (hz : ∀ j, j < k → l.getD j 0 = 0) (hnz : k < n → l.getD k 0 ≠ 0) :
    Calls Try.prog 49 #[.slice A n c, .func (.func 39) #[] #[]] w fun e w' => e = .returned (.int .i64 (if k < n then (k : Int) else -1)) ∧ w = w' := by
  unfold maxLen at hn
  have HL := Lib.hid hl
  have HRD := Lib.hid hrd
  have HZ := Lib.hid hz
  have HNZ := Lib.hid hnz
  clear hl hrd hz hnz
  go_enter Try.func49, Try.ntmps49
  go_wp2_with fail
  go_loop [8] (fun i => ∃ i' : Nat, i' ≤ k ∧ i = .int .i64 i') (fun i => n - (intOf i).toNat)
  case atStart => exact ⟨0, Nat.zero_le _, rfl⟩
  case round =>
    obtain ⟨i, hi, rfl⟩ := hrel
    by_cases hlt : i < n
    · obtain ⟨b, off, rfl, hb, hc⟩ := HRD.out (by rw [HL.out]; omega)
      have c1 := hc i (by rw [HL.out]; exact hlt)
      clear hc HRD
      by_cases hik : i < k
      · have hx := fne0 (HZ.out i hik)
        generalize l.getD i 0 = x at c1 hx
        go_wp2_with (go_at_call 39; refine (nz_any x _).mono ?_; rintro e w' ⟨rfl, rfl⟩)
        go_round
        case rel => exact ⟨i + 1, by omega, by go_num⟩
        case measure => simp only [intOf]; omega
      · obtain rfl : i = k := by omega
        have hx := fne0' (HNZ.out hlt)
        generalize l.getD i 0 = x at c1 hx
        go_wp2_with (go_at_call 39; refine (nz_any x _).mono ?_; rintro e w' ⟨rfl, rfl⟩)
        go_ret
        exact ⟨rfl, rfl⟩
    · go_wp2
      go_ret
      exact ⟨rfl, rfl⟩

set_option maxHeartbeats 1000000 in
theorem contains_any (A : Option Addr) (n c B : Nat) (l : List F) (w : World) (hl : l.length = n) (hrd : Rd w B A l) (hn : n ≤ maxLen) :
    Calls Try.prog 38 #[.slice A n c, .func (.func 39) #[] #[]] w fun e w' => e = .returned (.bool (anyNz l)) ∧ w = w' := by
  cases e : anyNz l with
  | true =>
    obtain ⟨k, hk, h1, h2⟩ := anyNz_true e
    have HC := index_any A n c B l w hl hrd hn k (by omega) h2 (fun _ => h1)
    rw [if_pos (by omega)] at HC
    have hk0 : (0 : Int) ≤ (k : Int) := by omega
    have H := Lib.hid HC
    clear HC h1 h2 hrd hl e
    go_enter Try.func38, Try.ntmps38
    go_wp2_with (go_at_call 49; refine H.out.mono ?_; rintro e w' ⟨rfl, rfl⟩)
    go_ret
    exact ⟨rfl, rfl⟩
  | false =>
    have HC := index_any A n c B l w hl hrd hn n (Nat.le_refl _) (fun j _ => anyNz_false e j) (fun h => by omega)
    rw [if_neg (by omega)] at HC
    have H := Lib.hid HC
    clear HC hrd hl e
    go_enter Try.func38, Try.ntmps38
    go_wp2_with (go_at_call 49; refine H.out.mono ?_; rintro e w' ⟨rfl, rfl⟩)
    go_ret
    exact ⟨rfl, rfl⟩

/-- Is a word right with r checks? -/
def rightB (l : List F) (r : Int) : Bool := decide (l.length ≤ 255 ∧ 0 ≤ r ∧ r ≤ 255 ∧ r ≤ (l.length : Int) ∧ anyNz (sumsL l r.toNat) = false)
theorem sums_zero {l : List F} {r : Nat} : anyNz (sumsL l r) = false ↔ Nought l r := by
  rw [anyNz_iff]
  unfold sumsL
  rw [tab_length]
  exact ⟨fun h j hj => by have := h j hj; rwa [tab_getD _ _ _ hj] at this, fun h j hj => by rw [tab_getD _ _ _ hj]; exact h j hj⟩
theorem rightB_iff {l : List F} {r : Nat} (hl : l.length ≤ 255) : rightB l (r : Int) = true ↔ r ≤ l.length ∧ Nought l r := by
  unfold rightB
  rw [decide_eq_true_iff, Int.toNat_natCast, sums_zero]
  exact ⟨fun ⟨_, _, _, h, h2⟩ => ⟨by omega, h2⟩, fun ⟨h, h2⟩ => ⟨hl, by omega, by omega, by omega, h2⟩⟩
theorem bool_iff {a b : Bool} (h : a = true ↔ b = true) : a = b := by cases a <;> cases b <;> simp_all

set_option maxHeartbeats 1000000 in
theorem right_bad (A : Option Addr) (n c : Nat) (r : Int) (w : World) (h : 255 < n ∨ r < 0 ∨ 255 < r) :
    Calls Try.prog 26 #[.slice A n c, .int .i64 r] w fun e w' => e = .returned (.bool false) ∧ w = w' := by
  have HC := Lib.hid (sums_bad A n c r w h)
  clear h
  go_enter Try.func26, Try.ntmps26
  go_wp2_with (go_at_call 37; refine HC.out.mono ?_; rintro e w' ⟨rfl, rfl⟩)
  go_ret
  exact ⟨rfl, rfl⟩

set_option maxHeartbeats 1000000 in
theorem right_short (A : Option Addr) (n c r : Nat) (l : List F) (w : World) (hl : l.length = n) (hrd : Rd w w.heap.size A l) (hn : n ≤ 255) (hr : r ≤ 255) (hrn : n < r) :
    Calls Try.prog 26 #[.slice A n c, .int .i64 r] w fun e w' => e = .returned (.bool false) ∧ Below w.heap.size w w' := by
  have HC := Lib.hid (sums_ok A n c r l w hl hrd hn hr)
  clear hl hrd
  go_enter Try.func26, Try.ntmps26
  go_wp2_with fail
  refine HC.out.mono ?_
  rintro e w1 ⟨A1, c1, rfl, hown, hbel⟩
  go_wp2
  go_ret
  exact ⟨rfl, hbel⟩

set_option maxHeartbeats 1000000 in
theorem right_long (A : Option Addr) (n c r : Nat) (l : List F) (w : World) (hl : l.length = n) (hrd : Rd w w.heap.size A l) (hn : n ≤ 255) (hr : r ≤ 255) (hrn : r ≤ n) :
    Calls Try.prog 26 #[.slice A n c, .int .i64 r] w fun e w' => e = .returned (.bool (!anyNz (sumsL l r))) ∧ Below w.heap.size w w' := by
  have HC := Lib.hid (sums_ok A n c r l w hl hrd hn hr)
  clear hl hrd
  go_enter Try.func26, Try.ntmps26
  go_wp2_with fail
  refine HC.out.mono ?_
  rintro e w1 ⟨A1, c1, rfl, hown, hbel⟩
  have hm : (sumsL l r).length ≤ maxLen := by unfold sumsL; rw [tab_length]; unfold maxLen; omega
  go_wp2_with fail
  refine (contains_any A1 _ c1 w1.heap.size (sumsL l r) w1 rfl hown.rd hm).mono ?_
  rintro e w' ⟨rfl, rfl⟩
  go_wp2_with fail
  go_ret
  exact ⟨rfl, hbel⟩

theorem right_any (A : Option Addr) (n c : Nat) (r : Int) (l : List F) (w : World) (hl : l.length = n) (hrd : Rd w w.heap.size A l) :
    Calls Try.prog 26 #[.slice A n c, .int .i64 r] w fun e w' => e = .returned (.bool (rightB l r)) ∧ Below w.heap.size w w' := by
  by_cases h : 255 < n ∨ r < 0 ∨ 255 < r
  · refine (right_bad A n c r w h).mono fun e w' he => ?_
    obtain ⟨rfl, rfl⟩ := he
    have : rightB l r = false := decide_eq_false fun h2 => by omega
    exact ⟨by rw [this], Below.refl _ _⟩
  · obtain ⟨k, rfl⟩ := Int.eq_ofNat_of_zero_le (show 0 ≤ r by omega)
    by_cases hrn : k ≤ n
    · refine (right_long A n c k l w hl hrd (by omega) (by omega) hrn).mono fun e w' he => ?_
      obtain ⟨rfl, hb⟩ := he
      have : rightB l (k : Int) = !anyNz (sumsL l k) := by
        refine bool_iff ?_
        rw [rightB_iff (by omega), ← sums_zero, Bool.not_eq_true']
        exact ⟨fun h => h.2, fun h => ⟨by omega, h⟩⟩
      exact ⟨by rw [this], hb⟩
    · refine (right_short A n c k l w hl hrd (by omega) (by omega) (by omega)).mono fun e w' he => ?_
      obtain ⟨rfl, hb⟩ := he
      have : rightB l (k : Int) = false := decide_eq_false fun h2 => by omega
      exact ⟨by rw [this], hb⟩
end Go.Proofs.Ythejbmjleohlfaa
