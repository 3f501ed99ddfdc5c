/- The walk of the statement DecodeMakes: a right word of which few symbols are others, or gone, is made what it was. -/
import Derived.Test.YtbahelhhkmonmaaDa
import Derived.Test.YtbahelhhkmonmaaPc
namespace Go.Proofs.Ytbahelhhkmonmaa
open Go.RowKit Go.Shelf

/-- A word, spoilt at the first k of some places. -/
def spoil (word : List F) (l : List Nat) (bs : List F) : Nat → List F
  | 0 => word
  | k + 1 => (spoil word l bs k).set (l.getD k 0) (bs.getD k 0)
theorem spoil_length (word : List F) (l : List Nat) (bs : List F) (k : Nat) : (spoil word l bs k).length = word.length := by
  induction k with
  | zero => rfl
  | succ k ih => rw [spoil, List.length_set, ih]
theorem spoil_out (word : List F) (l : List Nat) (bs : List F) {i : Nat} (hi : i ∉ l) (k : Nat) (hk : k ≤ l.length) : (spoil word l bs k).getD i 0 = word.getD i 0 := by
  induction k with
  | zero => rfl
  | succ k ih =>
    rw [spoil, getD_set_ne _ (fun e => hi (by rw [← e, List.getD, List.getElem?_eq_getElem (by omega)]; exact List.getElem_mem _)), ih (by omega)]
theorem dec_spoilt {n r k : Nat} {gs t l : List Nat} {bs word : List F} (hw : word.length = n) (hr : Nought word r) (hl : l = gs ++ t) (hf : 2 * t.length + gs.length ≤ r) (hk : k ≤ l.length) : Dec n r gs (spoil word l bs k) word := by
  refine ⟨hw, hr, ?_⟩
  have h1 := filter_or (fun i => decide (word.getD i 0 ≠ (spoil word l bs k).getD i 0 ∧ i ∉ gs)) (fun i => decide (i ∈ t)) (fun _ => false) (List.range n) (fun i h => by
    simp only [decide_eq_true_eq] at h
    refine .inl (decide_eq_true ?_)
    refine Classical.byContradiction fun hni => h.1 (spoil_out word l bs (fun hm => ?_) k hk).symm
    rw [hl, List.mem_append] at hm
    rcases hm with hm | hm
    · exact h.2 hm
    · exact hni hm)
  have h2 := filter_mem n t
  have h3 : ((List.range n).filter (fun _ => false)).length = 0 := by simp
  unfold unl
  omega
theorem map_pv64_int (gs : List Nat) : gs.map pv64 = (gs.map fun g : Nat => (g : Int)).map (Value.int .i64) := by rw [List.map_map]; rfl
theorem OwnV.rdI {w : World} {B n c : Nat} {A : Option Addr} {gs : List Nat} (h : OwnV 3 w B A n c (gs.map pv64)) : RdI w w.heap.size A (gs.map fun g : Nat => (g : Int)) := fun h0 => by
  obtain ⟨b, off, hA, hlt, hc⟩ := h.rd (by simpa using h0)
  refine ⟨b, off, hA, hlt, fun j hj => ?_⟩
  rw [List.length_map] at hj
  refine (hc j (pv64 (gs.getD j 0)) (by rw [List.getElem?_map, List.getElem?_eq_getElem hj, List.getD, List.getElem?_eq_getElem hj]; rfl)).trans ?_
  rw [List.getElem?_map, List.getElem?_eq_getElem hj, List.getD, List.getElem?_eq_getElem hj]
  rfl
theorem RdI.toV {w : World} {B : Nat} {A : Option Addr} {zs : List Int} (h : RdI w B A zs) : RdV w B A (zs.map (Value.int .i64)) := fun h0 => by
  obtain ⟨b, off, hA, hlt, hc⟩ := h (by simpa using h0)
  refine ⟨b, off, hA, hlt, fun j v hj => ?_⟩
  rw [List.getElem?_map] at hj
  have hjl : j < zs.length := by
    rcases Nat.lt_or_ge j zs.length with h | h
    · exact h
    · rw [List.getElem?_eq_none h] at hj; cases hj
  rw [hc j hjl]
  rw [List.getElem?_eq_getElem hjl] at hj ⊢
  injection hj with hj
  rw [← hj]; rfl
theorem RdV.toI {w : World} {B : Nat} {A : Option Addr} {zs : List Int} (h : RdV w B A (zs.map (Value.int .i64))) : RdI w B A zs := fun h0 => by
  obtain ⟨b, off, hA, hlt, hc⟩ := h (by simpa using h0)
  refine ⟨b, off, hA, hlt, fun j hj => ?_⟩
  refine hc j _ ?_
  rw [List.getElem?_map, List.getElem?_eq_getElem hj]
  rfl
theorem one_i64 (zs : List Int) : ∀ u ∈ zs.map (Value.int .i64), u.oneCell' = true := fun u hu => by
  obtain ⟨z, _, rfl⟩ := List.mem_map.1 hu
  rfl
theorem may_places {n : Nat} {r : Int} {gs : List Nat} {m : Nat} (h1 : 1 ≤ n) (h2 : n ≤ 255) (h3 : 0 ≤ r) (h4 : r ≤ (n : Int)) (h : Pl n m gs) : mayB n r (gs.map fun g : Nat => (g : Int)) = true := by
  refine mayB_iff.2 ⟨⟨h1, h2, h3, h4⟩, List.pairwise_map.2 (h.nd.imp fun hne e => hne (by omega)), fun z hz => ?_⟩
  obtain ⟨g, hg, rfl⟩ := List.mem_map.1 hz
  have := h.lt g hg
  omega

set_option maxRecDepth 100000 in
set_option maxHeartbeats 4000000 in
theorem makes_in (A1 A2 A3 A4 : Option Addr) (n0 n2 n3 n4 c1 c2 c3 c4 r : Nat) (l : List F) (z2 z3 : List Int) (bs : List F) (w : World) (hl : l.length = n0) (hrd : Rd w w.heap.size A1 l) (h2 : z2.length = n2) (hr2 : RdI w w.heap.size A2 z2) (h3 : z3.length = n3) (hr3 : RdI w w.heap.size A3 z3) (h4 : bs.length = n4) (hr4 : Rd w w.heap.size A4 bs)
    (hn0 : n0 ≤ 60) (hr : r ≤ 40) (hn2 : n2 ≤ 100) (hn3 : n3 ≤ 100) (hn4 : n4 ≤ 100) :
    Calls Try.prog 5 #[.slice A1 n0 c1, .int .i64 r, .slice A2 n2 c2, .slice A3 n3 c3, .slice A4 n4 c4] w fun e w' => e = .returned (.bool true) ∧ Below w.heap.size w w' := by
  have HL := Lib.hid hl
  have HRD := Lib.hid hrd
  have H2 := Lib.hid h2
  have HR2 := Lib.hid hr2
  have H3 := Lib.hid h3
  have HR3 := Lib.hid hr3
  have H4 := Lib.hid h4
  have HR4 := Lib.hid hr4
  clear hl hrd h2 hr2 h3 hr3 h4 hr4
  have u1 : decide ((60 : Int) < (n0 : Int)) = false := decide_eq_false (by omega)
  have u2 : decide ((40 : Int) < (r : Int)) = false := decide_eq_false (by omega)
  have u3 : decide ((100 : Int) < (n2 : Int)) = false := decide_eq_false (by omega)
  have u4 : decide ((100 : Int) < (n3 : Int)) = false := decide_eq_false (by omega)
  have u5 : decide ((100 : Int) < (n4 : Int)) = false := decide_eq_false (by omega)
  have u6 : decide ((r : Int) < 0) = false := decide_eq_false (by omega)
  go_enter Try.func5, Try.ntmps5
  go_wp2_with fail
  refine (awake_any _).mono ?_
  rintro e w1 ⟨rfl, hb1⟩
  have HB1 := Lib.hid hb1
  have RD1 := Lib.hid ((HRD.out.below hb1).more hb1.size)
  clear hb1
  go_wp2_with fail
  refine (check_ok A1 n0 c1 r l _ HL.out (by exact RD1.out) (by omega)).mono ?_
  rintro e w2 ⟨A5, c5, rfl, hm5, hb2⟩
  rw [checkL_length]
  have R5 := Lib.hid hm5.rd
  have HB2 := Lib.hid (bstep HB1.out (Nat.le_refl _) hb2)
  clear hm5 hb2 RD1 HB1
  obtain ⟨n, hn⟩ : ∃ n, n = n0 + r := ⟨_, rfl⟩
  have hn' : n ≤ 100 := by omega
  have hs2 := HB2.out.size
  by_cases hz : n0 + r = 0
  · have hz' : (n0 : Int) + (r : Int) = 0 := by omega
    have t1 : ((n0 : Int) + (r : Int) == 0) = true := by rw [beq_iff_eq]; exact hz'
    clear hz hz' hn
    go_wp2_with fail
    go_ret
    exact ⟨rfl, HB2.out⟩
  · have t1 : ((n0 : Int) + (r : Int) == 0) = false := by rw [beq_eq_false_iff_ne]; omega
    have RD2 := Lib.hid ((HRD.out.below HB2.out).more hs2)
    have hpos : 1 ≤ n := by omega
    have HN := Lib.hid hn
    have h0n : n0 ≤ n := by omega
    have hrn : r ≤ n := by omega
    clear hz hn
    have hwl : (l ++ checkL l r).length = n := by rw [List.length_append, HL.out, checkL_length, HN.out]
    have HWL := Lib.hid hwl
    have HWR := Lib.hid (show Nought (l ++ checkL l r) r from fun j hj => hv_word l r j hj)
    clear hwl
    go_wp2_with (first
      | (refine wpList_ext _ rfl (.tmp 66) (.tmp 67) rfl w.heap.size _ 0 _ [] rfl (Own.lit w2 w.heap.size [] _ hs2 (by decide) rfl) A1 n0 c1 _ l rfl HL.out (RD2.out.below (balloc w2 _)) (by omega) (by simp; omega) ?_; intro A6 c6 w3 hown3 hb3 hg3; simp only [Nat.zero_add, List.nil_append] at hown3)
      | (refine wpList_ext _ rfl (.tmp 68) (.tmp 69) rfl w.heap.size _ _ _ _ rfl hown3 A5 r c5 w2.heap.size (checkL l r) rfl (checkL_length l r) (R5.out.below ((balloc w2 _).grown hg3 (by simp) (by simp [Value.ownBlock]))) (by omega) (Nat.le_trans (by simp; omega) hb3.size) ?_; intro A7 c7 w4 hown4 hb4 hg4; rw [← HN.out] at hown4; try rw [← HN.out]))
    generalize hw : l ++ checkL l r = word at hown4 HWL HWR
    have B4 := Lib.hid (((HB2.out.alloc hs2 (.cells #[] 29)).trans hb3).trans hb4)
    have O4 := Lib.hid hown4
    have hs4 := B4.out.size
    have I2 := Lib.hid ((HR2.out.below B4.out).more hs4)
    clear hb3 hg3 hb4 hg4 hown3 hown4 R5 RD2 HB2 hw
    refine (places_any A2 n2 c2 n r z2 _ H2.out (by omega) (by exact I2.out) hpos (by omega) (by omega)).mono ?_
    rintro e w5 ⟨A8, c8, rfl, hown5, hb5⟩
    have PL := Lib.hid (placesL_pl (most := r) hpos z2)
    generalize placesL z2 n r = gs at hown5 PL ⊢
    obtain ⟨ng, hng⟩ : ∃ k, k = gs.length := ⟨_, rfl⟩
    have hgr : ng ≤ r := by rw [hng]; exact PL.out.few
    rw [← hng] at hown5 ⊢
    have HNG := Lib.hid hng
    have O5 := Lib.hid hown5
    have O45 := Lib.hid (O4.out.below hb5)
    have B5 := Lib.hid (bstep B4.out (Nat.le_refl _) hb5)
    have hs5 := B5.out.size
    have I3 := Lib.hid ((HR3.out.below B5.out).more hs5)
    clear hown5 hb5 hng O4 I2 B4
    have q1 : (0 : Int) ≤ (r : Int) - (ng : Int) := by omega
    go_wp2_with (first
      | (refine wpList_extV int_el _ rfl (.tmp 77) (.tmp 78) rfl w5.heap.size _ 0 _ [] rfl (OwnV.lit w5 w5.heap.size [] _ (Nat.le_refl _) (by decide) rfl) A8 ng c8 _ (gs.map pv64) (by rw [map_pv64_int]; exact one_i64 _) rfl O5.out.len (O5.out.rd.below (balloc w5 _)) (by omega) (by simp) ?_; intro A9 c9 w6 hown6 hb6 hg6; simp only [Nat.zero_add, List.nil_append] at hown6)
      | (refine wpList_extV int_el _ rfl (.tmp 79) (.tmp 80) rfl w5.heap.size _ _ _ _ rfl hown6 A3 n3 c3 w5.heap.size (z3.map (Value.int .i64)) (one_i64 _) rfl (by rw [List.length_map]; exact H3.out) (I3.out.toV.below ((balloc w5 _).grown hg6 (by simp) (by simp [Value.ownBlock]))) (by omega) (Nat.le_trans (by simp) hb6.size) ?_; intro A10 c10 w7 hown7 hb7 hg7))
    have hm2 : (ng : Int) + ((r : Int) - (ng : Int)) / 2 = ((ng + (r - ng) / 2 : Nat) : Int) := by omega
    rw [hm2]
    obtain ⟨m2, hm2'⟩ : ∃ m, m = ng + (r - ng) / 2 := ⟨_, rfl⟩
    rw [← hm2']
    have hm2a : ng ≤ m2 := by omega
    have hm2b : 2 * m2 ≤ ng + r := by omega
    have hm2c : m2 ≤ 100 := by omega
    clear hm2 hm2'
    have hmap : gs.map pv64 ++ z3.map (Value.int .i64) = (gs.map (fun g : Nat => (g : Int)) ++ z3).map (Value.int .i64) := by rw [List.map_append, map_pv64_int]
    rw [hmap] at hown7
    have I7 := Lib.hid hown7.rd.toI
    have hb57 : Below w5.heap.size w5 w7 := ((balloc w5 (.cells #[] 3)).trans hb6).trans hb7
    have Z7 := Lib.hid (show (gs.map (fun g : Nat => (g : Int)) ++ z3).length = ng + n3 by rw [List.length_append, List.length_map, ← HNG.out, H3.out])
    have O7 := Lib.hid (O45.out.below hb57)
    have G7 := Lib.hid (O5.out.below hb57)
    have B7 := Lib.hid (bstep B5.out (Nat.le_refl _) hb57)
    have AG := Lib.hid (placesL_again (n := n) (most := m2) (by omega) z3 PL.out.nd PL.out.lt (by rw [← HNG.out]; exact hm2a))
    have PL2 := Lib.hid (placesL_pl (most := m2) hpos (gs.map (fun g : Nat => (g : Int)) ++ z3))
    clear hown6 hown7 hb6 hb7 hg6 hg7 hb57 hmap O45 O5 B5 I3 
    refine (places_any A10 (ng + n3) c10 n m2 _ _ Z7.out (by omega) (by exact I7.out) hpos (by omega) (by omega)).mono ?_
    rintro e w8 ⟨A11, c11, rfl, hown8, hb8⟩
    generalize placesL (gs.map (fun g : Nat => (g : Int)) ++ z3) n m2 = ls at hown8 AG PL2 ⊢
    obtain ⟨nl, hnl⟩ : ∃ k, k = ls.length := ⟨_, rfl⟩
    have hnlm : nl ≤ m2 := by rw [hnl]; exact PL2.out.few
    rw [← hnl] at hown8 ⊢
    have HNL := Lib.hid hnl
    have L8 := Lib.hid hown8
    have O8 := Lib.hid (O7.out.below hb8)
    have G8 := Lib.hid (G7.out.below hb8)
    have B8 := Lib.hid (bstep B7.out (Nat.le_refl _) hb8)
    have hs8 := B8.out.size
    clear hown8 hb8 hnl O7 G7 B7 I7 Z7
    go_wp2_with (refine wpList_ext _ rfl (.tmp 92) (.tmp 93) rfl w8.heap.size _ 0 _ [] rfl (Own.lit w8 w8.heap.size [] _ (Nat.le_refl _) (by decide) rfl) A7 n c7 _ word rfl HWL.out (O8.out.rd.below (balloc w8 _)) (by omega) (by simp) ?_; intro A12 c12 w9 hown9 hb9 hg9; simp only [Nat.zero_add, List.nil_append] at hown9)
    have R48 := Lib.hid ((HR4.out.below B8.out).more hs8)
    obtain ⟨g, rfl, hg1, hg2⟩ := hown9.form (by omega)
    have O9 := Lib.hid hown9
    have B9 := Lib.hid ((balloc w8 (.cells #[] 29)).trans hb9)
    clear hown9 hb9 hg9
    go_loopw [18] (fun v wr => ∃ k : Nat, k ≤ nl ∧ k ≤ n4 ∧ v = .int .i64 k ∧ Own wr w8.heap.size (some ⟨g, 0, none⟩) n c12 (spoil word ls bs k) ∧ Below w8.heap.size w8 wr) (fun v _ => nl - (intOf v).toNat)
    case atStart => exact ⟨0, Nat.zero_le _, Nat.zero_le _, rfl, O9.out, B9.out⟩
    case round =>
      obtain ⟨k, hk1, hk2, rfl, hown, hbel⟩ := hrel
      have HO := Lib.hid hown
      have HB := Lib.hid hbel
      clear hown B9 O9
      by_cases hk : k < nl ∧ k < n4
      · obtain ⟨hk3, hk4⟩ := hk
        obtain ⟨b1, o1, rfl, hb1, hcl1⟩ := (L8.out.rd.below hbel) (by rw [List.length_map, ← HNL.out]; omega)
        obtain ⟨b2, o2, rfl, hb2, hcl2⟩ := (R48.out.below hbel) (by rw [H4.out]; omega)
        have hkl : k < ls.length := by rw [← HNL.out]; exact hk3
        have d1 := hcl1 k (pv64 (ls.getD k 0)) (by rw [List.getElem?_map, List.getElem?_eq_getElem hkl, List.getD, List.getElem?_eq_getElem hkl]; rfl)
        unfold pv64 at d1
        have d2 := hcl2 k (by rw [H4.out]; exact hk4)
        have hp : ls.getD k 0 < n := PL2.out.lt _ (by rw [List.getD, List.getElem?_eq_getElem hkl]; exact List.getElem_mem _)
        have HS := Lib.hid (show spoil word ls bs (k + 1) = (spoil word ls bs k).set (ls.getD k 0) (bs.getD k 0) from rfl)
        generalize ls.getD k 0 = p at d1 hp HS
        generalize bs.getD k 0 = x at d2 HS
        have q2 : (0 : Int) ≤ (k : Int) := by omega
        have q3 : (k : Int) < (nl : Int) := by omega
        have q4 : (k : Int) < (n4 : Int) := by omega
        have q5 : (0 : Int) ≤ (p : Int) := by omega
        have q6 : (p : Int) < (n : Int) := by omega
        have fz := HO.out.frozen p
        have ex := HO.out.cell hp
        clear hcl1 hcl2 hbel
        go_wp2_with fail
        refine region_tail 9 (by kernel_rfl) (by kernel_rfl) ?_
        simp only [List.take_succ_cons, List.take_zero, List.drop_succ_cons, List.drop_zero]
        repeat (first | still_step)
        refine wpStill_nil ?_
        go_wp2_with fail
        go_roundw
        case rel => exact ⟨k + 1, by omega, by omega, by go_num, by rw [HS.out]; exact (HO.out.store p x rfl).drew, (HB.out.setCell (p := ⟨g, p, none⟩) hg1 _).drew⟩
        case measure => simp only [intOf]; omega
      · have HSP := Lib.hid (show Dec n r gs (spoil word ls bs k) word from by
          obtain ⟨t, ht⟩ := AG.out
          exact dec_spoilt HWL.out HWR.out ht (by have h1 := congrArg List.length ht; rw [List.length_append, ← HNL.out, ← HNG.out] at h1; rw [← HNG.out]; omega) (by rw [← HNL.out]; exact hk1))
        have hsl : (spoil word ls bs k).length = n := by rw [spoil_length, HWL.out]
        generalize spoil word ls bs k = sp at HO HSP hsl
        have O10 := Lib.hid (O8.out.below hbel)
        have G10 := Lib.hid ((G8.out.rdI.below hbel).more hbel.size)
        have B10 := Lib.hid (bstep B8.out (Nat.le_refl _) hbel)
        have MB := Lib.hid (may_places (r := (r : Int)) hpos (by omega) (by omega) (by omega) PL.out)
        have SL := Lib.hid hsl
        clear hsl hbel HB
        by_cases hk3 : k < nl
        all_goals (
          have hk4 : k < nl → ¬ k < n4 := fun h1 h2 => hk ⟨h1, h2⟩
          (try replace hk4 := hk4 hk3)
          clear hk
          go_wp2_with fail
          refine (word_in (some ⟨g, 0, none⟩) A8 n c12 ng c8 r sp gs _ SL.out (by exact HO.out.rd) HNG.out.symm (by exact G10.out) hpos (by omega) hrn MB.out hgr PL.out.nd PL.out.lt).mono ?_
          rintro e w11 hret
          obtain ⟨A13, c13, rfl, ho, hb11⟩ := hret.ok (by omega) HSP.out
          have R13 := Lib.hid ho.rd
          have R7 := Lib.hid (O10.out.below hb11).rd
          have B11 := Lib.hid (bstep B10.out (Nat.le_refl _) hb11)
          clear hret ho hb11
          go_wp2_with fail
          refine (same_any A13 A7 n c13 n c7 w11.heap.size w11.heap.size word word _ HWL.out HWL.out (by exact R13.out) (by exact R7.out) (Nat.le_refl _) (Nat.le_refl _) (by unfold maxLen; omega)).mono ?_
          rintro e w12 ⟨rfl, hb12⟩
          rw [show decide (word = word) = true from decide_eq_true rfl]
          have B12 := Lib.hid (bstep B11.out (Nat.le_refl _) hb12)
          clear hb12
          go_wp2_with fail
          go_ret
          exact ⟨rfl, B12.out⟩)

set_option maxRecDepth 100000 in
set_option maxHeartbeats 4000000 in
theorem makes_bad (A1 A2 A3 A4 : Option Addr) (n0 n2 n3 n4 c1 c2 c3 c4 : Nat) (r : Int) (w : World) (h : 60 < n0 ∨ r < 0 ∨ 40 < r ∨ 100 < n2 ∨ 100 < n3 ∨ 100 < n4) :
    Calls Try.prog 5 #[.slice A1 n0 c1, .int .i64 r, .slice A2 n2 c2, .slice A3 n3 c3, .slice A4 n4 c4] w fun e w' => e = .returned (.bool true) ∧ Below w.heap.size w w' := by
  have t : (((((decide ((60 : Int) < (n0 : Int)) || decide (r < 0)) || decide ((40 : Int) < r)) || decide ((100 : Int) < (n2 : Int))) || decide ((100 : Int) < (n3 : Int))) || decide ((100 : Int) < (n4 : Int))) = true := by
    simp only [Bool.or_eq_true, decide_eq_true_iff]
    omega
  have T := Lib.hid t
  clear t
  by_cases g1 : 60 < n0
  case pos =>
    have u : decide ((60 : Int) < (n0 : Int)) = true := decide_eq_true (by omega)
    clear h g1 T
    go_enter Try.func5, Try.ntmps5
    go_wp2_with fail
    refine (awake_any _).mono ?_
    rintro e w1 ⟨rfl, hb⟩
    go_wp2_with fail
    go_ret
    exact ⟨rfl, hb⟩
  have u1 : decide ((60 : Int) < (n0 : Int)) = false := decide_eq_false (by omega)
  by_cases g2 : r < 0
  case pos =>
    have u : decide (r < 0) = true := decide_eq_true (by omega)
    clear h g2 T g1
    go_enter Try.func5, Try.ntmps5
    go_wp2_with fail
    refine (awake_any _).mono ?_
    rintro e w1 ⟨rfl, hb⟩
    go_wp2_with fail
    go_ret
    exact ⟨rfl, hb⟩
  have u2 : decide (r < 0) = false := decide_eq_false (by omega)
  by_cases g3 : 40 < r
  case pos =>
    have u : decide ((40 : Int) < r) = true := decide_eq_true (by omega)
    clear h g2 g3 T g1
    go_enter Try.func5, Try.ntmps5
    go_wp2_with fail
    refine (awake_any _).mono ?_
    rintro e w1 ⟨rfl, hb⟩
    go_wp2_with fail
    go_ret
    exact ⟨rfl, hb⟩
  have u3 : decide ((40 : Int) < r) = false := decide_eq_false (by omega)
  by_cases g4 : 100 < n2
  case pos =>
    have u : decide ((100 : Int) < (n2 : Int)) = true := decide_eq_true (by omega)
    clear h g2 g3 g4 T g1
    go_enter Try.func5, Try.ntmps5
    go_wp2_with fail
    refine (awake_any _).mono ?_
    rintro e w1 ⟨rfl, hb⟩
    go_wp2_with fail
    go_ret
    exact ⟨rfl, hb⟩
  have u4 : decide ((100 : Int) < (n2 : Int)) = false := decide_eq_false (by omega)
  by_cases g5 : 100 < n3
  case pos =>
    have u : decide ((100 : Int) < (n3 : Int)) = true := decide_eq_true (by omega)
    clear h g2 g3 g4 g5 T g1
    go_enter Try.func5, Try.ntmps5
    go_wp2_with fail
    refine (awake_any _).mono ?_
    rintro e w1 ⟨rfl, hb⟩
    go_wp2_with fail
    go_ret
    exact ⟨rfl, hb⟩
  have u5 : decide ((100 : Int) < (n3 : Int)) = false := decide_eq_false (by omega)
  have u6 : decide ((100 : Int) < (n4 : Int)) = true := decide_eq_true (by omega)
  clear h g2 g3 g4 g5 T g1
  go_enter Try.func5, Try.ntmps5
  go_wp2_with fail
  refine (awake_any _).mono ?_
  rintro e w1 ⟨rfl, hb⟩
  go_wp2_with fail
  go_ret
  exact ⟨rfl, hb⟩

theorem makes_walk (A1 A2 A3 A4 : Option Addr) (n0 n2 n3 n4 c1 c2 c3 c4 : Nat) (r : Int) (l : List F) (z2 z3 : List Int) (bs : List F) (w : World) (hl : l.length = n0) (hrd : Rd w w.heap.size A1 l) (h2 : z2.length = n2) (hr2 : RdI w w.heap.size A2 z2) (h3 : z3.length = n3) (hr3 : RdI w w.heap.size A3 z3) (h4 : bs.length = n4) (hr4 : Rd w w.heap.size A4 bs) :
    Calls Try.prog 5 #[.slice A1 n0 c1, .int .i64 r, .slice A2 n2 c2, .slice A3 n3 c3, .slice A4 n4 c4] w fun e w' => e = .returned (.bool true) ∧ Below w.heap.size w w' := by
  by_cases h : 60 < n0 ∨ r < 0 ∨ 40 < r ∨ 100 < n2 ∨ 100 < n3 ∨ 100 < n4
  · exact makes_bad A1 A2 A3 A4 n0 n2 n3 n4 c1 c2 c3 c4 r w h
  · obtain ⟨k, rfl⟩ := Int.eq_ofNat_of_zero_le (show 0 ≤ r by omega)
    exact makes_in A1 A2 A3 A4 n0 n2 n3 n4 c1 c2 c3 c4 k l z2 z3 bs w hl hrd h2 hr2 h3 hr3 h4 hr4 (by omega) (by omega) (by omega) (by omega) (by omega)

/-- A row of a slice of numbers, as a list. -/
theorem rdI_of_row {w : World} {a : Option Addr} {len cap : Nat} {zs : List Int}
    (h : (a = none ∧ len = 0 ∧ cap = 0 ∧ zs = []) ∨ ∃ x, a = some x ∧ len ≤ cap ∧ cap ≤ maxLen ∧ zs.length = cap ∧ (∀ i, i < zs.length → w.cell? (x.add i) = some (.int .i64 (zs.getD i 0))) ∧ ∀ n ∈ zs, (Lit.int .i64 n).wf = true) :
    ∃ l : List Int, l.length = len ∧ RdI w w.heap.size a l ∧ len ≤ cap ∧ cap ≤ maxLen := by
  rcases h with ⟨rfl, rfl, rfl, rfl⟩ | ⟨x, rfl, hl, hm, hz, hcx, hw⟩
  · exact ⟨[], rfl, RdI.nil, Nat.le_refl _, by unfold maxLen; omega⟩
  · refine ⟨zs.take len, by rw [List.length_take]; omega, fun h0 => ?_, hl, hm⟩
    have hlen : (zs.take len).length = len := by rw [List.length_take]; omega
    obtain ⟨b, off, rfl, hc⟩ := Go.ints_at hcx (by omega)
    have hcell := hc 0 (by omega)
    have hb : b < w.heap.size := by
      rcases Nat.lt_or_ge b w.heap.size with h | h
      · exact h
      · simp [World.cell?, Array.getElem?_eq_none h] at hcell
    refine ⟨b, off, rfl, hb, fun j hj => ?_⟩
    rw [hlen] at hj
    rw [hc j (by omega), List.getElem?_take, if_pos hj]
    rfl
end Go.Proofs.Ytbahelhhkmonmaa
