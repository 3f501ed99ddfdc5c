/- The walks of slopes and of the polynomial of some roots. -/
import Derived.Test.YthejbmjleohlfaaPw
namespace Go.Proofs.Ythejbmjleohlfaa
open Go.RowKit

/-- The slope, not shortened. -/
def slopeR (l : List F) : List F := tab (l.length - 1) (fun i => if i % 2 = 1 then 0 else l.getD (i + 1) 0)
def slopeL (l : List F) : List F := shortL (slopeR l)
/-- The slope's coefficients before i are made. -/
def slopeTo (l : List F) (i : Nat) : List F := tab (l.length - 1) (fun j => if j % 2 = 1 ∧ j < i then 0 else l.getD (j + 1) 0)
theorem slopeTo_length (l : List F) (i : Nat) : (slopeTo l i).length = l.length - 1 := tab_length _ _
theorem slopeTo_start (l : List F) : l.tail = slopeTo l 1 := tab_ext (by rw [List.length_tail]) fun j _ => by
  rw [if_neg (by omega)]
  cases l <;> rfl
theorem slopeTo_next (l : List F) {i : Nat} (h : i % 2 = 1) (hi : i < l.length - 1) : (slopeTo l i).set i 0 = slopeTo l (i + 2) := by
  refine tab_ext (by rw [List.length_set, slopeTo_length]) fun j hj => ?_
  by_cases e : i = j
  · subst e
    rw [getD_set_eq _ (by rw [slopeTo_length]; exact hi), if_pos (by omega)]
  · rw [getD_set_ne _ e, slopeTo, tab_getD _ _ _ hj]
    by_cases h2 : j % 2 = 1 ∧ j < i
    · rw [if_pos h2, if_pos (by omega)]
    · rw [if_neg h2, if_neg (by omega)]
theorem slopeTo_done (l : List F) {i : Nat} (hi : l.length - 1 ≤ i) : slopeTo l i = slopeR l := tab_congr fun j hj => by
  by_cases h : j % 2 = 1
  · rw [if_pos h, if_pos ⟨h, by omega⟩]
  · rw [if_neg h, if_neg (fun h2 => h h2.1)]
theorem slopeL_nil : slopeL [] = [] := rfl
theorem Rd.tail {w : World} {B b off : Nat} {l : List F} (h : Rd w B (some ⟨b, off, none⟩) l) : Rd w B (some ⟨b, off + 1, none⟩) l.tail := fun h0 => by
  rw [List.length_tail] at h0
  obtain ⟨b', off', hA, hlt, hc⟩ := h (by omega)
  injection hA with hA; injection hA with hA hA2; subst hA; subst hA2
  refine ⟨b, off + 1, rfl, hlt, fun j hj => ?_⟩
  rw [List.length_tail] at hj
  rw [show off + 1 + j = off + (j + 1) from by omega, hc (j + 1) (by omega)]
  cases l <;> rfl

set_option maxRecDepth 100000 in
set_option maxHeartbeats 4000000 in
theorem slope_any (A : Option Addr) (n c : Nat) (l : List F) (w : World) (hl : l.length = n) (hr : Rd w w.heap.size A l) (hn : n ≤ 60000) (hc : n ≤ c) (hm : c ≤ maxLen) :
    Calls Try.prog 54 #[.slice A n c] w (RetPol w (slopeL l)) := by
  by_cases h0 : n = 0
  · obtain rfl : l = [] := List.eq_nil_of_length_eq_zero (by omega)
    subst h0
    clear hr
    go_enter Try.func54, Try.ntmps54
    go_wp2
    go_ret
    exact RetPol.none w
  unfold maxLen at hm
  obtain ⟨b, off, rfl, hb, hcell⟩ := hr (by omega)
  clear hcell
  have t1 : ((n : Int) == 0) = false := by rw [beq_eq_false_iff_ne]; omega
  have HL := Lib.hid hl
  have HT := Lib.hid hr.tail
  have HTL := Lib.hid (show l.tail.length = n - 1 by rw [List.length_tail, hl])
  clear hl hr
  go_enter Try.func54, Try.ntmps54
  by_cases h1 : c = 1
  · obtain rfl : n = 1 := by omega
    subst h1
    have e : l.tail = [] := List.eq_nil_of_length_eq_zero HTL.out
    go_wp2_with (first
      | (go_at_call 41; refine (clone_any _ 0 0 [] _ rfl Rd.nil (by omega)).mono ?_; rintro e w' ⟨A', c', rfl, hown, hbel⟩)
      | (go_at_call 68; refine (short_any _ 0 c' [] _ rfl Rd.nil (by omega) (Nat.zero_le _)).mono ?_; rintro e w' ⟨A', c', rfl, hown, hbel⟩))
    go_loopw [4] (fun v wr => v = .int .i64 1 ∧ wr = w') (fun _ _ => 0)
    case atStart => exact ⟨rfl, rfl⟩
    case round =>
      obtain ⟨rfl, rfl⟩ := hrel
      go_wp2_with (go_at_call 68; refine (short_any _ 0 c' [] _ rfl Rd.nil (by omega) (Nat.zero_le _)).mono ?_; rintro e w3 ⟨A3, c3, rfl, hown3, hbel3⟩)
      go_ret
      have e2 : slopeL l = shortL [] := by
        rw [slopeL, ← slopeTo_done l (i := 1) (by rw [HL.out]; omega), ← slopeTo_start, e]
      rw [e2]
      exact ⟨A3, c3, rfl, Own.less hown3 hbel.size, bstep hbel (Nat.le_refl _) hbel3⟩
  · have z : (1 : Int) ≤ (n : Int) := by omega
    go_wp2_with (go_at_call 41; refine (clone_any _ (n - 1) (c - 1) l.tail _ HTL.out (by exact HT.out) (by omega)).mono ?_; rintro e w' ⟨A', c', rfl, hown, hbel⟩)
    rw [HTL.out, slopeTo_start] at hown
    rw [← List.length_tail, HTL.out]
    go_loopw [4] (fun v wr => ∃ i : Nat, i % 2 = 1 ∧ i ≤ n + 2 ∧ v = .int .i64 i ∧ Own wr w.heap.size A' (n - 1) c' (slopeTo l i) ∧ Below w.heap.size w wr) (fun v _ => n + 2 - (intOf v).toNat)
    case atStart => exact ⟨1, rfl, by omega, rfl, hown, hbel⟩
    case round =>
      obtain ⟨i, hodd, hi, rfl, ho, hb⟩ := hrel
      have HB := Lib.hid hb
      have HO := Lib.hid ho
      clear ho hown hbel hb
      by_cases hin : i < n - 1
      · obtain ⟨g, rfl, hg, _⟩ := HO.out.form (by omega)
        have HX := Lib.hid (slopeTo_next l hodd (by rw [HL.out]; exact hin))
        have cc := HO.out.cell hin
        have hfz := HO.out.frozen i
        have HD := Lib.hid (show (i + 2) % 2 = 1 by omega)
        clear hodd
        generalize slopeTo l i = cur at cc HO HX
        generalize cur.getD i 0 = x at cc
        have q2 : (i : Int) < ((n - 1 : Nat) : Int) := by omega
        go_wp2
        go_roundw
        case rel => exact ⟨i + 2, HD.out, by omega, by go_num, by rw [← HX.out]; exact HO.out.store i 0 rfl, HB.out.setCell (p := ⟨g, i, none⟩) hg _⟩
        case measure => simp only [intOf]; omega
      · go_wp2_with (go_at_call 68; refine (short_any _ (n - 1) c' (slopeTo l i) _ HO.out.len (by exact HO.out.rd) (by omega) HO.out.cap.1).mono ?_; rintro e w3 ⟨A3, c3, rfl, hown3, hbel3⟩)
        go_ret
        have e2 : slopeL l = shortL (slopeTo l i) := by
          rw [slopeL, slopeTo_done l (by rw [HL.out]; omega)]
        rw [e2]
        exact ⟨A3, c3, rfl, Own.less hown3 HB.out.size, bstep HB.out (Nat.le_refl _) hbel3⟩

/-- The polynomial of some roots. -/
def ofL (roots : List F) : List F := roots.foldl (fun o x => mulL o [x, 1]) [1]
theorem ofL_snoc (roots : List F) (x : F) : ofL (roots ++ [x]) = mulL (ofL roots) [x, 1] := by rw [ofL, List.foldl_append]; rfl
theorem ofL_length (roots : List F) : (ofL roots).length ≤ roots.length + 1 := by
  have : ∀ (l : List F) (o : List F), (l.foldl (fun o x => mulL o [x, 1]) o).length ≤ o.length + l.length := by
    intro l
    induction l with
    | nil => intro o; exact Nat.le_refl _
    | cons x l ih =>
      intro o
      refine Nat.le_trans (ih _) ?_
      have h : (mulL o [x, 1]).length ≤ o.length + 1 := by
        rcases Nat.eq_zero_or_pos o.length with h | h
        · obtain rfl := List.eq_nil_of_length_eq_zero h
          simp [nil_mulL]
        · exact Nat.le_trans (mulL_length' o [x, 1] h (by simp)) (by simp)
      rw [List.length_cons]
      show (mulL o [x, 1]).length + l.length ≤ _
      omega
  refine Nat.le_trans (this roots [1]) ?_
  simp; omega
theorem ofL_take {l : List F} {i : Nat} (hi : i < l.length) : ofL (l.take (i + 1)) = mulL (ofL (l.take i)) [l.getD i 0, 1] := by
  rw [List.take_succ_eq_append_getElem hi, ofL_snoc, List.getD, List.getElem?_eq_getElem hi]
  rfl
end Go.Proofs.Ythejbmjleohlfaa
