/- The walks of the statements' own helpers: data with their checks behind them, and the examples. -/
import Derived.Test.YtnbekifcajmdkaaRsr
import Derived.Test.YtnbekifcajmdkaaSame3
namespace Go.Proofs.Ytnbekifcajmdkaa
open Go.RowKit

/-- Data with their checks behind them. -/
def wordL (data : List F) (r : Nat) : List F := data ++ checkL data r
theorem wordL_length (data : List F) (r : Nat) : (wordL data r).length = data.length + r := by rw [wordL, List.length_append, checkL_length]
def RetWord (w : World) (l : List F) (e : Ending) (w' : World) : Prop := ∃ A c, e = .returned (.tuple #[.slice A l.length c, .bool true]) ∧ Own w' w.heap.size A l.length c l ∧ Below w.heap.size w w'
theorem etup_sb {A : Option Addr} {n m c : Nat} {z : Bool} (h : n = m) : Ending.returned (.tuple #[.slice A n c, .bool z]) = .returned (.tuple #[.slice A m c, .bool z]) := by rw [h]

set_option maxRecDepth 100000 in
set_option maxHeartbeats 2000000 in
theorem word_any (A : Option Addr) (n c r : Nat) (l : List F) (w : World) (hl : l.length = n) (hrd : Rd w w.heap.size A l) (hnr : n + r ≤ 255) :
    Calls Try.prog 18 #[.slice A n c, .int .i64 r] w (RetWord w (wordL l r)) := by
  have HC := Lib.hid (check_ok A n c r l w hl hrd hnr)
  have HL := Lib.hid hl
  have HRD := Lib.hid hrd
  clear hl hrd
  go_enter Try.func18, Try.ntmps18
  go_wp2_with fail
  refine HC.out.mono ?_
  rintro e w1 ⟨A1, c1, rfl, hmine, hbel⟩
  rw [checkL_length]
  have hr1 := hmine.rd
  have hr2 := HRD.out.below hbel
  have HR1 := Lib.hid hr1
  have HR2 := Lib.hid hr2
  clear hr1 hr2 hmine
  have hB := hbel.size
  go_wp2_with (first
    | (refine wpList_ext _ rfl (.tmp 14) (.tmp 15) rfl w.heap.size _ 0 _ [] rfl (Own.lit w1 w.heap.size [] _ hB (by decide) rfl) A n c w.heap.size l rfl HL.out (HR2.out.below (balloc w1 _ |>.mono hB)) (by omega) (by simp; omega) ?_; intro A2 c2 w2 hown2 hb2 hg2; simp only [Nat.zero_add, List.nil_append] at hown2)
    | (refine wpList_ext _ rfl (.tmp 16) (.tmp 17) rfl w.heap.size _ _ _ _ rfl hown2 A1 r c1 w1.heap.size (checkL l r) rfl (checkL_length l r) (HR1.out.below ((balloc w1 _).grown hg2 (by simp) (by simp [Value.ownBlock]))) (by omega) (Nat.le_trans (by simp; omega) hb2.size) ?_; intro A3 c3 w3 hown3 hb3 hg3))
  go_ret2
  have hw : (wordL l r).length = n + r := by rw [wordL_length, HL.out]
  exact ⟨A3, c3, etup_sb hw.symm, by rw [hw]; exact hown3, ((hbel.alloc hB _).trans hb2).trans hb3⟩

theorem ck7 : checkL [F.ofNat 7] 1 = [F.ofNat 7] := by decide +kernel
theorem ck0 : checkL [] 2 = [0, 0] := by decide +kernel
theorem rt0 : rightB [0, 0, 0] 2 = true := by decide +kernel
theorem rt1 : rightB [1] 1 = false := by decide +kernel
theorem rt11 : rightB [1, 1] 1 = true := by decide +kernel
theorem lit_rd (w : World) (l : List F) (cs : Array Value) (hn : l.length ≤ 100000000) (hcs : cs.toList = l.map fv) : Rd (w.alloc (.cells cs 27)) (w.alloc (.cells cs 27)).heap.size (some ⟨w.heap.size, 0, none⟩) l :=
  (Own.lit w w.heap.size l cs (Nat.le_refl _) hn hcs).rd
theorem lit_at (w : World) (l : List F) (cs : Array Value) (g : Nat) (hg : g = w.heap.size) (hn : l.length ≤ 100000000) (hcs : cs.toList = l.map fv) : Rd (w.alloc (.cells cs 27)) (w.alloc (.cells cs 27)).heap.size (some ⟨g, 0, none⟩) l := by
  subst hg; exact lit_rd w l cs hn hcs

set_option maxRecDepth 100000 in
set_option maxHeartbeats 4000000 in
theorem works_any (w : World) : Calls Try.prog 10 #[] w fun e w' => e = .returned (.bool true) ∧ Below w.heap.size w w' := by
  go_enter Try.func10, Try.ntmps10
  go_wp2_with fail
  refine (check_ok _ 1 1 1 [F.ofNat 7] _ rfl (by exact lit_at _ _ _ _ (by simp) (by decide) rfl) (by omega)).mono ?_
  rintro e w1 ⟨A1, c1, rfl, hm1, hb1⟩
  rw [ck7] at hm1 ⊢
  have r1 := hm1.rd
  have hb1' : Below w.heap.size w w1 := bstep (balloc _ _) (Nat.le_refl _) hb1
  clear hm1 hb1
  have R1 := Lib.hid r1
  clear r1
  go_wp2_with fail
  refine (check_ok none 0 0 2 [] _ rfl Rd.nil (by omega)).mono ?_
  rintro e w2 ⟨A2, c2, rfl, hm2, hb2⟩
  rw [ck0] at hm2 ⊢
  have R2 := Lib.hid hm2.rd
  have hb2' : Below w.heap.size w w2 := bstep hb1' (Nat.le_refl _) hb2
  have R12 := Lib.hid (R1.out.below hb2)
  clear hm2 hb1' R1
  go_wp2_with fail
  refine (check_bad _ _ _ _ _ (by omega)).mono ?_
  rintro e w' ⟨rfl, rfl⟩
  obtain ⟨b1, o1, rfl, hlt1, hc1⟩ := (R12.out.below ((balloc w2 (.cells #[Value.int IntKind.u16 1] 27)).mono hb2.size)) (by decide)
  have c7 := hc1 0 (by decide)
  rw [Nat.add_zero] at c7
  rw [show ((([F.ofNat 7] : List F).getD 0 0).nat : Int) = 7 from by decide] at c7
  have hb3 := Lib.hid (hb2'.alloc hb2'.size (.cells #[Value.int IntKind.u16 1] 27))
  clear hc1 R12 hb2 hb2'
  have R22 := Lib.hid ((R2.out.below (balloc w2 (.cells #[Value.int IntKind.u16 1] 27))).more (balloc w2 (.cells #[Value.int IntKind.u16 1] 27)).size)
  clear R2
  go_wp2_with fail
  refine (same_any A2 _ 2 c2 2 2 _ _ [0, 0] [0, 0] _ rfl rfl (by exact R22.out.below (balloc _ _)) (by exact lit_at _ _ _ _ (by simp) (by decide) rfl) (by simp) (Nat.le_refl _) (by decide)).mono ?_
  rintro e w4 ⟨rfl, hb4⟩
  have hb5 := Lib.hid (bstep (hb3.out.alloc hb3.out.size (.cells #[Value.int IntKind.u16 0, Value.int IntKind.u16 0] 27)) (Nat.le_refl _) hb4)
  clear hb4 hb3 R22
  go_wp2_with fail
  refine (right_any _ 3 3 2 [0, 0, 0] _ rfl (by exact lit_at _ _ _ _ (by simp) (by decide) rfl)).mono ?_
  rintro e w5 ⟨rfl, hb6⟩
  rw [rt0]
  have hb7 := Lib.hid (bstep (hb5.out.alloc hb5.out.size _) (Nat.le_refl _) hb6)
  clear hb5 hb6
  go_wp2_with fail
  refine (right_any _ 1 1 1 [1] _ rfl (by exact lit_at _ _ _ _ (by simp) (by decide) rfl)).mono ?_
  rintro e w6 ⟨rfl, hb8⟩
  rw [rt1]
  have hb9 := Lib.hid (bstep (hb7.out.alloc hb7.out.size _) (Nat.le_refl _) hb8)
  clear hb7 hb8
  go_wp2_with fail
  refine (right_any _ 2 2 1 [1, 1] _ rfl (by exact lit_at _ _ _ _ (by simp) (by decide) rfl)).mono ?_
  rintro e w7 ⟨rfl, hb10⟩
  rw [rt11]
  have hb11 := Lib.hid (bstep (hb9.out.alloc hb9.out.size _) (Nat.le_refl _) hb10)
  clear hb9 hb10
  go_wp2_with fail
  go_ret
  exact ⟨rfl, hb11.out⟩
end Go.Proofs.Ytnbekifcajmdkaa
