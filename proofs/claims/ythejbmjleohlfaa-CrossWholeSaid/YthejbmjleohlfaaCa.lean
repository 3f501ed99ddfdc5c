/- A shape, and the rows of a volume: the walks of what asks for them. -/
import Derived.Test.YthejbmjleohlfaaOg
import Derived.Test.YthejbmjleohlfaaRsr
namespace Go.Proofs.Ythejbmjleohlfaa
set_option linter.unusedVariables false
open Go.RowKit

/-- May a shape be? -/
def shapeB (D R S M : Int) : Bool := decide ((1 : Int) ≤ D) && decide (D ≤ (64 : Int)) && decide ((0 : Int) ≤ R) && decide (R ≤ (32 : Int)) && decide ((2 : Int) ≤ S) && decide (S ≤ (512 : Int)) && (S.tmod 2 == 0) && decide ((0 : Int) ≤ M) && decide (M ≤ (32 : Int))
/-- A text as a value. -/
def sv (l : List UInt8) : Value := .string ⟨l.toArray⟩
/-- A shape as a value. -/
def shV (D R S M : Int) : Value := .agg #[.int .i64 D, .int .i64 R, .int .i64 S, .int .i64 M]
/-- A shape as an object. -/
def shO (D R S M : Int) : Obj := .cells #[.int .i64 D, .int .i64 R, .int .i64 S, .int .i64 M] 31
/-- Has a volume the rows that a shape asks for? -/
def fineB (D S : Int) (rows : List (List UInt8)) : Bool := ((rows.length : Int) == D) && !(rows.any fun r => ((r.length : Int) != S))

set_option maxRecDepth 100000 in
set_option maxHeartbeats 4000000 in
theorem shape_any (D R S M : Int) (w : World) : Calls Try.prog 16 #[shV D R S M] w fun e w' => e = .returned (.bool (shapeB D R S M)) ∧ Below w.heap.size w w' := by
  unfold shV
  cases h1 : decide ((1 : Int) ≤ D) with
  | false =>
    go_enter Try.func16, Try.ntmps16
    go_wp2_with fail
    go_ret
    exact ⟨ebool (by rw [shapeB, h1]; rfl), balloc w _⟩
  | true =>
  cases h2 : decide (D ≤ (64 : Int)) with
  | false =>
    go_enter Try.func16, Try.ntmps16
    go_wp2_with fail
    go_ret
    exact ⟨ebool (by rw [shapeB, h1, h2]; rfl), balloc w _⟩
  | true =>
  cases h3 : decide ((0 : Int) ≤ R) with
  | false =>
    go_enter Try.func16, Try.ntmps16
    go_wp2_with fail
    go_ret
    exact ⟨ebool (by rw [shapeB, h1, h2, h3]; rfl), balloc w _⟩
  | true =>
  cases h4 : decide (R ≤ (32 : Int)) with
  | false =>
    go_enter Try.func16, Try.ntmps16
    go_wp2_with fail
    go_ret
    exact ⟨ebool (by rw [shapeB, h1, h2, h3, h4]; rfl), balloc w _⟩
  | true =>
  cases h5 : decide ((2 : Int) ≤ S) with
  | false =>
    go_enter Try.func16, Try.ntmps16
    go_wp2_with fail
    go_ret
    exact ⟨ebool (by rw [shapeB, h1, h2, h3, h4, h5]; rfl), balloc w _⟩
  | true =>
  cases h6 : decide (S ≤ (512 : Int)) with
  | false =>
    go_enter Try.func16, Try.ntmps16
    go_wp2_with fail
    go_ret
    exact ⟨ebool (by rw [shapeB, h1, h2, h3, h4, h5, h6]; rfl), balloc w _⟩
  | true =>
  cases h7 : (S.tmod 2 == 0) with
  | false =>
    go_enter Try.func16, Try.ntmps16
    go_wp2_with fail
    go_ret
    exact ⟨ebool (by rw [shapeB, h1, h2, h3, h4, h5, h6, h7]; rfl), balloc w _⟩
  | true =>
  cases h8 : decide ((0 : Int) ≤ M) with
  | false =>
    go_enter Try.func16, Try.ntmps16
    go_wp2_with fail
    go_ret
    exact ⟨ebool (by rw [shapeB, h1, h2, h3, h4, h5, h6, h7, h8]; rfl), balloc w _⟩
  | true =>
  cases h9 : decide (M ≤ (32 : Int)) with
  | false =>
    go_enter Try.func16, Try.ntmps16
    go_wp2_with fail
    go_ret
    exact ⟨ebool (by rw [shapeB, h1, h2, h3, h4, h5, h6, h7, h8, h9]; rfl), balloc w _⟩
  | true =>
  go_enter Try.func16, Try.ntmps16
  go_wp2_with fail
  go_ret
  exact ⟨ebool (by rw [shapeB, h1, h2, h3, h4, h5, h6, h7, h8, h9]; rfl), balloc w _⟩

theorem first_any {α : Type} (p : α → Bool) (d : α) (xs : List α) : ∃ k, k ≤ xs.length ∧ (∀ j, j < k → p (xs.getD j d) = false) ∧ (k < xs.length → p (xs.getD k d) = true) ∧ xs.any p = decide (k < xs.length) := by
  induction xs with
  | nil => exact ⟨0, Nat.le_refl _, fun j hj => by omega, fun h => by simp at h, rfl⟩
  | cons x xs ih =>
    cases hx : p x with
    | true => exact ⟨0, by simp, fun j hj => by omega, fun _ => hx, by simp [hx]⟩
    | false =>
      obtain ⟨k, h1, h2, h3, h4⟩ := ih
      refine ⟨k + 1, by simp; omega, fun j hj => ?_, fun h => h3 (by simp at h; exact h), by rw [List.any_cons, hx, h4]; simp⟩
      cases j with
      | zero => exact hx
      | succ j => exact h2 j (by omega)
/-- A block that holds a shape. -/
structure ShapeAt (w : World) (g : Nat) (D R S M : Int) : Prop where
  d : w.cell? ⟨g, 0, none⟩ = some (.int .i64 D)
  r : w.cell? ⟨g, 1, none⟩ = some (.int .i64 R)
  s : w.cell? ⟨g, 2, none⟩ = some (.int .i64 S)
  m : w.cell? ⟨g, 3, none⟩ = some (.int .i64 M)
theorem ShapeAt.new (w : World) (D R S M : Int) : ShapeAt (w.alloc (shO D R S M)) w.heap.size D R S M := by
  unfold shO
  constructor <;> go_cell
theorem ShapeAt.below {w w' : World} {g B : Nat} {D R S M : Int} (h : ShapeAt w g D R S M) (hg : g < B) (hb : Below B w w') : ShapeAt w' g D R S M :=
  ⟨(hb.cell (p := ⟨g, 0, none⟩) hg).trans h.d, (hb.cell (p := ⟨g, 1, none⟩) hg).trans h.r, (hb.cell (p := ⟨g, 2, none⟩) hg).trans h.s, (hb.cell (p := ⟨g, 3, none⟩) hg).trans h.m⟩

set_option maxHeartbeats 400000 in
theorem fine1_any (l : List UInt8) (g : Nat) (D R S M : Int) (w : World) (h : ShapeAt w g D R S M) : Calls Try.prog 31 #[sv l, .pointer (some ⟨g, 0, none⟩)] w fun e w' => e = .returned (.bool ((l.length : Int) != S)) ∧ w = w' := by
  have c2 := h.s
  clear h
  unfold sv
  go_enter Try.func31, Try.ntmps31
  go_wp2
  go_ret
  exact ⟨rfl, rfl⟩

set_option maxHeartbeats 1000000 in
theorem indexs_any (A : Option Addr) (n c g B : Nat) (D R S M : Int) (rows : List (List UInt8)) (w : World) (hl : rows.length = n) (hrd : RdV w B A (rows.map sv)) (hn : n ≤ maxLen) (k : Nat) (hk : k ≤ n)
    (hz : ∀ j, j < k → (((rows.getD j []).length : Int) != S) = false) (hnz : k < n → (((rows.getD k []).length : Int) != S) = true) (hs : ShapeAt w g D R S M) :
    Calls Try.prog 46 #[.slice A n c, .func (.func 31) #[] #[.pointer (some ⟨g, 0, none⟩)]] w fun e w' => e = .returned (.int .i64 (if k < n then (k : Int) else -1)) ∧ w = w' := by
  unfold maxLen at hn
  have HL := Lib.hid hl
  have HRD := Lib.hid hrd
  have HZ := Lib.hid hz
  have HNZ := Lib.hid hnz
  have HS := Lib.hid hs
  clear hl hrd hz hnz hs
  go_enter Try.func46, Try.ntmps46
  go_wp2_with fail
  go_loop [8] (fun i => ∃ i' : Nat, i' ≤ k ∧ i = .int .i64 i') (fun i => n - (intOf i).toNat)
  case atStart => exact ⟨0, Nat.zero_le _, rfl⟩
  case round =>
    obtain ⟨j, hj, rfl⟩ := hrel
    by_cases hlt : j < n
    · have hjl : j < rows.length := by rw [HL.out]; exact hlt
      obtain ⟨b, off, rfl, hb, hcg⟩ := HRD.out (by rw [List.length_map]; omega)
      have c1 := hcg j (sv (rows.getD j [])) (by rw [List.getElem?_map, List.getElem?_eq_getElem hjl, List.getD, List.getElem?_eq_getElem hjl]; rfl)
      clear hcg HRD
      by_cases hik : j < k
      · have hx := HZ.out j hik
        generalize rows.getD j [] = x at c1 hx
        have H := Lib.hid (fine1_any x g D R S M w HS.out)
        rw [hx] at H
        clear hx
        go_wp2_with (go_at_call 31; refine H.out.mono ?_; rintro e w' ⟨rfl, rfl⟩)
        go_round
        case rel => exact ⟨j + 1, by omega, by go_num⟩
        case measure => simp only [intOf]; omega
      · obtain rfl : j = k := by omega
        have hx := HNZ.out hlt
        generalize rows.getD j [] = x at c1 hx
        have H := Lib.hid (fine1_any x g D R S M w HS.out)
        rw [hx] at H
        clear hx
        go_wp2_with (go_at_call 31; refine H.out.mono ?_; rintro e w' ⟨rfl, rfl⟩)
        go_ret
        exact ⟨rfl, rfl⟩
    · go_wp2
      go_ret
      exact ⟨rfl, rfl⟩

set_option maxHeartbeats 1000000 in
theorem containss_any (A : Option Addr) (n c g B : Nat) (D R S M : Int) (rows : List (List UInt8)) (w : World) (hl : rows.length = n) (hrd : RdV w B A (rows.map sv)) (hn : n ≤ maxLen) (hs : ShapeAt w g D R S M) :
    Calls Try.prog 30 #[.slice A n c, .func (.func 31) #[] #[.pointer (some ⟨g, 0, none⟩)]] w fun e w' => e = .returned (.bool (rows.any fun r => ((r.length : Int) != S))) ∧ w = w' := by
  obtain ⟨k, hk, h1, h2, h3⟩ := first_any (fun r : List UInt8 => ((r.length : Int) != S)) [] rows
  rw [hl] at hk h2 h3
  rw [h3]
  have HC := indexs_any A n c g B D R S M rows w hl hrd hn k hk h1 h2 hs
  clear h1 h2 h3 hrd hl hs
  by_cases e : k < n
  · rw [if_pos e] at HC
    have H := Lib.hid HC
    have hk0 : (0 : Int) ≤ (k : Int) := by omega
    rw [decide_eq_true e]
    clear HC e
    go_enter Try.func30, Try.ntmps30
    go_wp2_with (go_at_call 46; refine H.out.mono ?_; rintro e w' ⟨rfl, rfl⟩)
    go_ret
    exact ⟨rfl, rfl⟩
  · rw [if_neg e] at HC
    have H := Lib.hid HC
    rw [decide_eq_false e]
    clear HC e
    go_enter Try.func30, Try.ntmps30
    go_wp2_with (go_at_call 46; refine H.out.mono ?_; rintro e w' ⟨rfl, rfl⟩)
    go_ret
    exact ⟨rfl, rfl⟩

set_option maxHeartbeats 1000000 in
theorem fine_any (A : Option Addr) (n c : Nat) (D R S M : Int) (rows : List (List UInt8)) (w : World) (hl : rows.length = n) (hrd : RdV w w.heap.size A (rows.map sv)) (hn : n ≤ maxLen) :
    Calls Try.prog 19 #[shV D R S M, .slice A n c] w fun e w' => e = .returned (.bool (fineB D S rows)) ∧ Below w.heap.size w w' := by
  unfold fineB
  rw [hl]
  have H := Lib.hid (containss_any A n c w.heap.size w.heap.size D R S M rows (w.alloc (shO D R S M)) hl (hrd.below (balloc w _)) hn (ShapeAt.new w D R S M))
  generalize (rows.any fun r => ((r.length : Int) != S)) = q at H ⊢
  clear hrd hl hn
  unfold shO at H
  unfold shV
  cases h : ((n : Int) == D) with
  | false =>
    go_enter Try.func19, Try.ntmps19
    go_wp2_with fail
    go_ret
    exact ⟨rfl, balloc w _⟩
  | true =>
    go_enter Try.func19, Try.ntmps19
    go_wp2_with (go_at_call 30; refine H.out.mono ?_; rintro e w' ⟨rfl, rfl⟩)
    go_ret
    exact ⟨rfl, balloc w _⟩
end Go.Proofs.Ythejbmjleohlfaa
