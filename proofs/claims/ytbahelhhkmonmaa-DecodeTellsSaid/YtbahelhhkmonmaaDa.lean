/- The walk of the examples (awake). -/
import Derived.Test.YtbahelhhkmonmaaDv2
import Derived.Test.YtbahelhhkmonmaaSame2
namespace Go.Proofs.Ytbahelhhkmonmaa
open Go.RowKit Go.Shelf

theorem RetDec.ok {w : World} {n r : Nat} {gs : List Nat} {l d : List F} {e : Ending} {w' : World} (h : RetDec w n r gs l e w') (hn : n ≤ 255) (hd : Dec n r gs l d) :
    ∃ (A : Option Addr) (c : Nat), e = .returned (.tuple #[.slice A n c, .int .i64 0]) ∧ Own w' w.heap.size A n c d ∧ Below w.heap.size w w' := by
  rcases h with ⟨A, c, d', he, ho, hd', hb⟩ | ⟨hno, _⟩
  · obtain rfl := dec_apart hn hd hd'
    exact ⟨A, c, he, ho, hb⟩
  · exact absurd hd (hno d)
theorem lit_at (w : World) (l : List F) (cs : Array Value) (g : Nat) (hg : g = w.heap.size) (hn : l.length ≤ 100000000) (hcs : cs.toList = l.map fv) : Rd (w.alloc (.cells cs 29)) (w.alloc (.cells cs 29)).heap.size (some ⟨g, 0, none⟩) l := by
  subst hg; exact (Own.lit w w.heap.size l cs (Nat.le_refl _) hn hcs).rd
theorem OwnI.lit (w : World) (B : Nat) (zs : List Int) (cs : Array Value) (hB : B ≤ w.heap.size) (hn : zs.length ≤ 100000000) (hcs : cs.toList = zs.map (Value.int .i64)) :
    OwnI (w.alloc (.cells cs 3)) B (.slice (some ⟨w.heap.size, 0, none⟩) zs.length zs.length) zs := by
  have hsz : cs.size = zs.length * 1 := by rw [← Array.length_toList, hcs, List.length_map, Nat.mul_one]
  have := World.ownsRow_lit (e := 3) (size := 1) w cs zs.length hB (by unfold maxLen; omega) hsz
  rw [hcs] at this
  exact this
theorem lit_i (w : World) (zs : List Int) (cs : Array Value) (g : Nat) (hg : g = w.heap.size) (hn : zs.length ≤ 100000000) (hcs : cs.toList = zs.map (Value.int .i64)) : RdI (w.alloc (.cells cs 3)) (w.alloc (.cells cs 3)).heap.size (some ⟨g, 0, none⟩) zs := by
  subst hg
  obtain ⟨A, c, hv, _, _, hr⟩ := (OwnI.lit w w.heap.size zs cs (Nat.le_refl _) hn hcs).form
  injection hv with hv
  rw [hv]
  exact hr
def dat : List F := [1, F.ofNat 2, F.ofNat 3]
def aw : List F := dat ++ checkL dat 2
theorem aw_length : aw.length = 5 := by rw [aw, List.length_append, checkL_length]; rfl
theorem aw_right : Nought aw 2 := fun j hj => hv_word dat 2 j hj
theorem aw_one : Dec 5 2 [] (aw.set 1 (F.ofNat 999)) aw := by
  refine ⟨aw_length, aw_right, ?_⟩
  have h := filter_or (fun i => decide (aw.getD i 0 ≠ (aw.set 1 (F.ofNat 999)).getD i 0 ∧ i ∉ ([] : List Nat))) (fun i => decide (i = 1)) (fun _ => false) (List.range 5) (fun i h => by
    simp only [decide_eq_true_eq] at h
    refine .inl (decide_eq_true ?_)
    exact Classical.byContradiction fun hne => h.1 (getD_set_ne _ (fun e => hne e.symm)).symm)
  have h1 := filter_one 5 1
  have h2 : ((List.range 5).filter (fun _ => false)).length = 0 := by simp
  show 2 * unl [] aw _ 5 + 0 ≤ 2
  unfold unl
  omega
theorem aw_two : Dec 5 2 [4, 0] ((aw.set 0 (F.ofNat 5)).set 4 (F.ofNat 6)) aw := by
  refine ⟨aw_length, aw_right, ?_⟩
  have : unl [4, 0] aw ((aw.set 0 (F.ofNat 5)).set 4 (F.ofNat 6)) 5 = 0 := by
    unfold unl
    rw [List.length_eq_zero_iff, List.filter_eq_nil_iff]
    intro i _ h
    simp only [decide_eq_true_eq, List.mem_cons, not_or] at h
    exact h.1 (by rw [getD_set_ne _ (fun e => h.2.1 e.symm), getD_set_ne _ (fun e => h.2.2.1 e.symm)])
  rw [this]
  exact Nat.le_refl 2
theorem may_one : mayB 5 2 ([] : List Int) = true := mayB_iff.2 (by decide)
theorem may_two : mayB 5 2 [4, 0] = true := mayB_iff.2 (by decide)

set_option maxRecDepth 100000 in
set_option maxHeartbeats 4000000 in
theorem awake_any (w : World) : Calls Try.prog 7 #[] w fun e w' => e = .returned (.bool true) ∧ Below w.heap.size w w' := by
  go_enter Try.func7, Try.ntmps7
  go_wp2_with fail
  refine (check_ok _ 3 3 2 dat _ rfl (by exact lit_at _ _ _ _ (by simp) (by decide) rfl) (by omega)).mono ?_
  rintro e w1 ⟨A1, c1, rfl, hm1, hb1⟩
  rw [checkL_length]
  have R1 := Lib.hid hm1.rd
  have B1 := Lib.hid (bstep (balloc w _) (Nat.le_refl _) hb1)
  have R0 := Lib.hid ((lit_at w dat #[.int .u16 1, .int .u16 2, .int .u16 3] _ rfl (by decide) rfl).below hb1 |>.more hb1.size)
  clear hm1 hb1
  have hs := B1.out.size
  go_wp2_with (first
    | (refine wpList_ext _ rfl (.tmp 23) (.tmp 24) rfl w.heap.size _ 0 _ [] rfl (Own.lit w1 w.heap.size [] _ hs (by decide) rfl) _ 3 3 _ dat rfl rfl (R0.out.below (balloc w1 _)) (by omega) (by simp; omega) ?_; intro A2 c2 w2 hown2 hb2 hg2; simp only [Nat.zero_add, List.nil_append] at hown2)
    | (refine wpList_ext _ rfl (.tmp 25) (.tmp 26) rfl w.heap.size _ _ _ _ rfl hown2 A1 2 c1 w1.heap.size (checkL dat 2) rfl (checkL_length dat 2) (R1.out.below ((balloc w1 _).grown hg2 (by simp) (by simp [Value.ownBlock]))) (by omega) (Nat.le_trans (by simp; omega) hb2.size) ?_; intro A3 c3 w3 hown3 hb3 hg3; have O3 := Lib.hid hown3; have hs3 := hb3.size; have hs2 := hb2.size)
    | (refine wpList_ext _ rfl (.tmp 28) (.tmp 29) rfl w3.heap.size _ 0 _ [] rfl (Own.lit w3 w3.heap.size [] _ (Nat.le_refl _) (by decide) rfl) A3 5 c3 w3.heap.size aw rfl aw_length (O3.out.rd.below (balloc w3 _)) (by omega) (by simp) ?_; intro A4 c4 w4 hown4 hb4 hg4; simp only [Nat.zero_add, List.nil_append] at hown4; obtain ⟨g4, rfl, hg4a, hg4b⟩ := hown4.form (by omega); have e4 := hown4.cell (j := 1) (by omega); have f4 := hown4.frozen 1))
  have B3 := Lib.hid (((B1.out.alloc hs (.cells #[] 29)).trans hb2).trans hb3)
  have B34 := Lib.hid (((balloc w3 (.cells #[] 29)).trans hb4).setCell (p := ⟨g4, 1, none⟩) hg4a (.int .u16 999))
  have O5 := Lib.hid (hown4.store 1 (F.ofNat 999) (z := 999) (by decide))
  have O35 := Lib.hid (O3.out.below B34.out)
  have B5 := Lib.hid (bstep B3.out (Nat.le_refl _) B34.out)
  clear hown4 hb4 hg4 hb3 hb2 hg2 hg3 hown3 hown2 B34 B3 O3 R1 R0 B1
  refine (word_in (some ⟨g4, 0, none⟩) none 5 c4 0 0 2 (aw.set 1 (F.ofNat 999)) [] _ (by rw [List.length_set]; exact aw_length) (by exact O5.out.rd) rfl RdI.nil (by omega) (by omega) (by omega) may_one (by omega) List.nodup_nil (by simp)).mono ?_
  rintro e w6 hret
  obtain ⟨A6, c6, rfl, ho6, hb6⟩ := hret.ok (by omega) aw_one
  have O36 := Lib.hid (O35.out.below hb6)
  have B6 := Lib.hid (bstep B5.out (Nat.le_refl _) hb6)
  have O6 := Lib.hid (ho6.less B5.out.size)
  have hs6 := B6.out.size
  clear hret ho6 hb6 O35 O5 B5
  go_wp2_with (refine wpList_ext _ rfl (.tmp 38) (.tmp 39) rfl w6.heap.size _ 0 _ [] rfl (Own.lit w6 w6.heap.size [] _ (Nat.le_refl _) (by decide) rfl) A3 5 c3 w6.heap.size aw rfl aw_length (O36.out.rd.below (balloc w6 _)) (by omega) (by simp) ?_; intro A7 c7 w7 hown7 hb7 hg7; simp only [Nat.zero_add, List.nil_append] at hown7; obtain ⟨g7, rfl, hg7a, hg7b⟩ := hown7.form (by omega); have e7 := hown7.cell (j := 0) (by omega); have f7 := hown7.frozen 0; have e7' := (hown7.store 0 (F.ofNat 5) (z := 5) (by decide)).cell (j := 4) (by omega); have f7' := (hown7.store 0 (F.ofNat 5) (z := 5) (by decide)).frozen 4)
  have O8 := Lib.hid ((((hown7.store 0 (F.ofNat 5) (z := 5) (by decide)).store 4 (F.ofNat 6) (z := 6) (by decide))).alloc (.cells #[.int .i64 4, .int .i64 0] 3))
  have B8 := Lib.hid (((((balloc w6 (.cells #[] 29)).trans hb7).setCell (p := ⟨g7, 0, none⟩) hg7a (.int .u16 5)).setCell (p := ⟨g7, 4, none⟩) hg7a (.int .u16 6)).alloc (by simp; omega) (.cells #[.int .i64 4, .int .i64 0] 3))
  have O38 := Lib.hid (O36.out.below B8.out)
  have O68 := Lib.hid (O6.out.below B8.out)
  replace B8 := Lib.hid (bstep B6.out (Nat.le_refl _) B8.out)
  clear hown7 hb7 hg7 O6 O36 B6
  refine (word_in (some ⟨g7, 0, none⟩) _ 5 c7 2 2 2 ((aw.set 0 (F.ofNat 5)).set 4 (F.ofNat 6)) [4, 0] _ (by rw [List.length_set, List.length_set]; exact aw_length) (by exact O8.out.rd) rfl (by exact lit_i _ _ _ _ (by simp) (by decide) rfl) (by omega) (by omega) (by omega) may_two (by omega) (by decide) (by decide)).mono ?_
  rintro e w9 hret
  obtain ⟨A9, c9, rfl, ho9, hb9⟩ := hret.ok (by omega) aw_two
  have R9 := Lib.hid ho9.rd
  have R6 := Lib.hid (O68.out.below hb9).rd
  have R3 := Lib.hid (O38.out.below hb9).rd
  have B9 := Lib.hid (bstep B8.out (Nat.le_refl _) hb9)
  clear hret ho9 hb9 O68 O38 O8 B8
  go_wp2_with fail
  refine (same_any A6 A3 5 c6 5 c3 w9.heap.size w9.heap.size aw aw _ aw_length aw_length (by exact R6.out) (by exact R3.out) (Nat.le_refl _) (Nat.le_refl _) (by decide)).mono ?_
  rintro e w10 ⟨rfl, hb10⟩
  rw [show decide (aw = aw) = true from decide_eq_true rfl]
  have R10 := Lib.hid (R9.out.below hb10)
  have R310 := Lib.hid (R3.out.below hb10)
  have B10 := Lib.hid (bstep B9.out (Nat.le_refl _) hb10)
  have hs10 := hb10.size
  clear hb10 R9 R6 R3 B9
  go_wp2_with fail
  refine (same_any A9 A3 5 c9 5 c3 w9.heap.size w9.heap.size aw aw _ aw_length aw_length (by exact R10.out) (by exact R310.out) hs10 hs10 (by decide)).mono ?_
  rintro e w11 ⟨rfl, hb11⟩
  rw [show decide (aw = aw) = true from decide_eq_true rfl]
  have B11 := Lib.hid (bstep B10.out (Nat.le_refl _) hb11)
  clear hb11
  go_wp2_with fail
  go_ret
  exact ⟨rfl, B11.out⟩
end Go.Proofs.Ytbahelhhkmonmaa
