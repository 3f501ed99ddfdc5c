/- The walks of what compares volumes. -/
import Derived.Test.YthejbmjleohlfaaCb
import Derived.Test.YthejbmjleohlfaaTk
namespace Go.Proofs.Ythejbmjleohlfaa
set_option linter.unusedVariables false
open Go.RowKit

theorem RdV.strCell {w : World} {B : Nat} {A : Option Addr} {l : List (List UInt8)} (h : RdV w B A (l.map sv)) {i : Nat} (hi : i < l.length) : ∃ b off, A = some ⟨b, off, none⟩ ∧ b < B ∧ w.cell? ⟨b, off + i, none⟩ = some (sv (l.getD i [])) := by
  obtain ⟨b, off, hA, hb, hc⟩ := h (by rw [List.length_map]; omega)
  refine ⟨b, off, hA, hb, hc i _ ?_⟩
  rw [List.getElem?_map, List.getElem?_eq_getElem hi, List.getD, List.getElem?_eq_getElem hi]
  rfl
theorem sv_inj {x y : List UInt8} : ((⟨x.toArray⟩ : ByteArray) = ⟨y.toArray⟩) ↔ x = y := by
  constructor
  · intro h
    injection h with h
    exact List.toArray_inj h
  · rintro rfl; rfl

set_option maxRecDepth 100000 in
set_option maxHeartbeats 1000000 in
theorem texts_eq (A1 A2 : Option Addr) (n1 c1 n2 c2 B1 B2 : Nat) (a b : List (List UInt8)) (w : World) (ha : a.length = n1) (hb : b.length = n2) (h1 : RdV w B1 A1 (a.map sv)) (h2 : RdV w B2 A2 (b.map sv)) (hB1 : B1 ≤ w.heap.size) (hB2 : B2 ≤ w.heap.size) (hn : n1 ≤ 1000000) :
    Calls Try.prog 28 #[.slice A1 n1 c1, .slice A2 n2 c2] w fun e w' => e = .returned (.bool (decide (a = b))) ∧ Below w.heap.size w w' := by
  have HA := Lib.hid ha
  have HB := Lib.hid hb
  have H1 := Lib.hid h1
  have H2 := Lib.hid h2
  clear ha hb h1 h2
  by_cases hl : n1 = n2
  · subst hl
    have t0 : ((n1 : Int) != (n1 : Int)) = false := by simp
    go_enter Try.func28, Try.ntmps28
    go_wp2_with fail
    go_loopw [5] (fun i wr => ∃ k : Nat, k ≤ n1 ∧ i = .int .i64 k ∧ Hid (∀ j, j < k → a.getD j [] = b.getD j []) ∧ Below w.heap.size w wr) (fun i _ => n1 - (intOf i).toNat)
    case atStart => exact ⟨0, Nat.zero_le _, rfl, Lib.hid fun j hj => absurd hj (by omega), Below.refl _ _⟩
    case round =>
      obtain ⟨k, hk, rfl, HE, hbel⟩ := hrel
      have HBL := Lib.hid hbel
      by_cases hkn : k < n1
      · obtain ⟨b1, o1, rfl, hb1, e1⟩ := ((H1.out.more hB1).below hbel).strCell (i := k) (by rw [HA.out]; exact hkn)
        obtain ⟨b2, o2, rfl, hb2, e2⟩ := ((H2.out.more hB2).below hbel).strCell (i := k) (by rw [HB.out]; exact hkn)
        have q1 : (0 : Int) ≤ (k : Int) := by omega
        have q2 : (k : Int) < (n1 : Int) := by omega
        by_cases he : a.getD k [] = b.getD k []
        · have HE2 := Lib.hid (show ∀ j, j < k + 1 → a.getD j [] = b.getD j [] from fun j hj => by
            by_cases e : j = k
            · subst e; exact he
            · exact HE.out j (by omega))
          rw [he] at e1
          generalize b.getD k [] = x at e1 e2
          clear he hbel
          unfold sv at e1 e2
          go_wp2_with fail
          go_quiet (fail)
          go_wp2_with fail
          go_roundw
          case rel => exact ⟨k + 1, by omega, by go_num, HE2, below_drewN HBL.out _⟩
          case measure => simp only [intOf]; omega
        · have HAB := Lib.hid (decide_eq_false (show a ≠ b from fun e => he (by rw [e])))
          generalize a.getD k [] = x at e1 he
          generalize b.getD k [] = y at e2 he
          have hne : (x == y) = false := by rw [beq_eq_false_iff_ne]; exact he
          clear he hbel
          unfold sv at e1 e2
          go_wp2_with fail
          go_quiet (fail)
          go_wp2_with fail
          go_ret
          exact ⟨ebool HAB.out.symm, below_drewN HBL.out _⟩
      · obtain rfl : k = n1 := by omega
        have hab : a = b := List.ext_getElem (by rw [HA.out, HB.out]) fun j h1 h2 => by
          have := HE.out j (by rw [← HA.out]; exact h1)
          rw [List.getD, List.getElem?_eq_getElem h1, List.getD, List.getElem?_eq_getElem h2] at this
          exact this
        have HAB := Lib.hid (decide_eq_true hab)
        clear hab
        go_wp2_with fail
        go_ret
        exact ⟨ebool HAB.out.symm, hbel⟩
  · have t0 : ((n1 : Int) != (n2 : Int)) = true := by simp; omega
    have HAB := Lib.hid (decide_eq_false (show a ≠ b from fun e => hl (by rw [← HA.out, ← HB.out, e])))
    clear hl
    go_enter Try.func28, Try.ntmps28
    go_wp2_with fail
    go_ret
    exact ⟨ebool HAB.out.symm, Below.refl _ _⟩
theorem ext_getD_nil {a b : List (List (List UInt8))} (hl : a.length = b.length) (h : ∀ j, j < a.length → a.getD j [] = b.getD j []) : a = b :=
  List.ext_getElem hl fun j h1 h2 => by
    have := h j h1
    rw [List.getD, List.getElem?_eq_getElem h1, List.getD, List.getElem?_eq_getElem h2] at this
    exact this
set_option maxRecDepth 100000 in
set_option maxHeartbeats 2000000 in
theorem same_eq (A1 A2 : Option Addr) (n1 c1 n2 c2 B1 B2 : Nat) (H H' : Nat → Option Addr × Nat) (a b : List (List (List UInt8))) (w : World) (ha : a.length = n1) (hb : b.length = n2) (h1 : RdSS w B1 A1 H a) (h2 : RdSS w B2 A2 H' b) (hB1 : B1 ≤ w.heap.size) (hB2 : B2 ≤ w.heap.size) (hn : n1 ≤ 1000000) (hm : ∀ i, i < n1 → (a.getD i []).length ≤ 1000000) :
    Calls Try.prog 13 #[.slice A1 n1 c1, .slice A2 n2 c2] w fun e w' => e = .returned (.bool (decide (a = b))) ∧ Below w.heap.size w w' := by
  have HA := Lib.hid ha
  have HB := Lib.hid hb
  have H1 := Lib.hid h1
  have H2 := Lib.hid h2
  have HM := Lib.hid hm
  clear ha hb h1 h2 hm
  by_cases hl : n1 = n2
  · subst hl
    have t0 : ((n1 : Int) != (n1 : Int)) = false := by simp
    go_enter Try.func13, Try.ntmps13
    go_wp2_with fail
    go_loopw [5] (fun i wr => ∃ k : Nat, k ≤ n1 ∧ i = .int .i64 k ∧ Hid (∀ j, j < k → a.getD j [] = b.getD j []) ∧ Below w.heap.size w wr) (fun i _ => n1 - (intOf i).toNat)
    case atStart => exact ⟨0, Nat.zero_le _, rfl, Lib.hid fun j hj => absurd hj (by omega), Below.refl _ _⟩
    case round =>
      obtain ⟨k, hk, rfl, HE, hbel⟩ := hrel
      have HBL := Lib.hid hbel
      have hsz := hbel.size
      by_cases hkn : k < n1
      · have R1 := H1.out.more hB1
        have R2 := H2.out.more hB2
        obtain ⟨b1, o1, rfl, hb1, e1⟩ := (R1.below hbel).cell (i := k) (by rw [HA.out]; exact hkn)
        obtain ⟨b2, o2, rfl, hb2, e2⟩ := (R2.below hbel).cell (i := k) (by rw [HB.out]; exact hkn)
        have HT := Lib.hid (fun (V : World) (hbv : Below w.heap.size w V) => texts_eq (H k).1 (H' k).1 (a.getD k []).length (H k).2 (b.getD k []).length (H' k).2 w.heap.size w.heap.size (a.getD k []) (b.getD k []) V rfl rfl ((R1.rows k (by rw [HA.out]; exact hkn)).below hbv) ((R2.rows k (by rw [HB.out]; exact hkn)).below hbv) hbv.size hbv.size (HM.out k hkn))
        have q1 : (0 : Int) ≤ (k : Int) := by omega
        have q2 : (k : Int) < (n1 : Int) := by omega
        by_cases he : a.getD k [] = b.getD k []
        · have HE2 := Lib.hid (show ∀ j, j < k + 1 → a.getD j [] = b.getD j [] from fun j hj => by
            by_cases e : j = k
            · subst e; exact he
            · exact HE.out j (by omega))
          rw [decide_eq_true he] at HT
          generalize (a.getD k []).length = l1 at e1 HT
          generalize (b.getD k []).length = l2 at e2 HT
          generalize (H k).1 = G1 at e1 HT
          generalize (H k).2 = g1 at e1 HT
          generalize (H' k).1 = G2 at e2 HT
          generalize (H' k).2 = g2 at e2 HT
          clear he hbel R1 R2
          have e10 := (HBL.out.cell (p := ⟨b1, o1 + k, none⟩) hb1).symm.trans e1
          have e20 := (HBL.out.cell (p := ⟨b2, o2 + k, none⟩) hb2).symm.trans e2
          have HBq := HBL.out
          clear e1 e2
          go_wp2_with fail
          refine wp_region_held_drew (S := fun w' => Below w.heap.size w w') (by kernel_rfl) HBq.drew (fun hHeld => ?_)
          refine take_in (v := ?_) 17 0 rfl rfl (by kernel_rfl) (by kernel_rfl) (by kernel_rfl) (fun _ _ _ h => h) (by rfl) ?_ (by assumption) ?_
          rotate_left 1
          · (intro w hSw; go_simp; (try with_reducible rfl))
          (try simp only [List.setIfInBounds_toArray, List.set_cons_zero, List.set_cons_succ])
          refine take_in (v := ?_) 18 1 rfl rfl (by kernel_rfl) (by kernel_rfl) (by kernel_rfl) (fun _ _ _ h => h) (by rfl) ?_ (by assumption) ?_
          rotate_left 1
          · (intro w hSw; go_simp; (try with_reducible rfl))
          (try simp only [List.setIfInBounds_toArray, List.set_cons_zero, List.set_cons_succ])
          refine take_in (v := ?_) 19 2 rfl rfl (by kernel_rfl) (by kernel_rfl) (by kernel_rfl) (fun _ _ _ h => h) (by rfl) ?_ (by assumption) ?_
          rotate_left 1
          · (intro w hSw; go_simp; (try with_reducible rfl))
          (try simp only [List.setIfInBounds_toArray, List.set_cons_zero, List.set_cons_succ])
          refine take_in (v := ?_) 20 3 rfl rfl (by kernel_rfl) (by kernel_rfl) (by kernel_rfl) (fun _ _ _ h => h) (by rfl) ?_ (by assumption) ?_
          rotate_left 1
          · (intro w hSw; have z1 := (hSw.cell (p := ⟨b1, o1 + k, none⟩) hb1).trans e10; go_simp; (try with_reducible rfl))
          (try simp only [List.setIfInBounds_toArray, List.set_cons_zero, List.set_cons_succ])
          refine take_in (v := ?_) 21 4 rfl rfl (by kernel_rfl) (by kernel_rfl) (by kernel_rfl) (fun _ _ _ h => h) (by rfl) ?_ (by assumption) ?_
          rotate_left 1
          · (intro w hSw; go_simp; (try with_reducible rfl))
          (try simp only [List.setIfInBounds_toArray, List.set_cons_zero, List.set_cons_succ])
          refine take_in (v := ?_) 22 5 rfl rfl (by kernel_rfl) (by kernel_rfl) (by kernel_rfl) (fun _ _ _ h => h) (by rfl) ?_ (by assumption) ?_
          rotate_left 1
          · (intro w hSw; go_simp; (try with_reducible rfl))
          (try simp only [List.setIfInBounds_toArray, List.set_cons_zero, List.set_cons_succ])
          refine take_in (v := ?_) 23 6 rfl rfl (by kernel_rfl) (by kernel_rfl) (by kernel_rfl) (fun _ _ _ h => h) (by rfl) ?_ (by assumption) ?_
          rotate_left 1
          · (intro w hSw; go_simp; (try with_reducible rfl))
          (try simp only [List.setIfInBounds_toArray, List.set_cons_zero, List.set_cons_succ])
          refine take_in (v := ?_) 24 7 rfl rfl (by kernel_rfl) (by kernel_rfl) (by kernel_rfl) (fun _ _ _ h => h) (by rfl) ?_ (by assumption) ?_
          rotate_left 1
          · (intro w hSw; have z2 := (hSw.cell (p := ⟨b2, o2 + k, none⟩) hb2).trans e20; go_simp; (try with_reducible rfl))
          (try simp only [List.setIfInBounds_toArray, List.set_cons_zero, List.set_cons_succ])
          refine wpAnyH_ready (rs := [8]) (by kernel_rfl) (by simp) ?_
          refine AllReadyH.cons rfl (fun K hK => ?_) AllReadyH.nil
          go_simp
          refine (HT.out _ hHeld).mono ?_
          rintro e wC ⟨rfl, hbC⟩
          go_wp2_with fail
          refine hK.out _ _ (bstep hHeld (Nat.le_refl _) hbC) (fun hHeld => ?_)
          clear hK K
          (try simp only [List.setIfInBounds_toArray, List.set_cons_zero, List.set_cons_succ])
          refine take_in (v := ?_) 26 9 rfl rfl (by kernel_rfl) (by kernel_rfl) (by kernel_rfl) (fun _ _ _ h => h) (by rfl) ?_ (by assumption) ?_
          rotate_left 1
          · (intro w hSw; go_simp; (try with_reducible rfl))
          (try simp only [List.setIfInBounds_toArray, List.set_cons_zero, List.set_cons_succ])
          refine wpAnyH_done (by kernel_rfl) ?_ _
          go_wp2_with fail
          go_roundw
          case rel => exact ⟨k + 1, by omega, by go_num, HE2, hHeld⟩
          case measure => simp only [intOf]; omega
        · have HAB := Lib.hid (decide_eq_false (show a ≠ b from fun e => he (by rw [e])))
          rw [decide_eq_false he] at HT
          generalize (a.getD k []).length = l1 at e1 HT
          generalize (b.getD k []).length = l2 at e2 HT
          generalize (H k).1 = G1 at e1 HT
          generalize (H k).2 = g1 at e1 HT
          generalize (H' k).1 = G2 at e2 HT
          generalize (H' k).2 = g2 at e2 HT
          clear he hbel R1 R2
          have e10 := (HBL.out.cell (p := ⟨b1, o1 + k, none⟩) hb1).symm.trans e1
          have e20 := (HBL.out.cell (p := ⟨b2, o2 + k, none⟩) hb2).symm.trans e2
          have HBq := HBL.out
          clear e1 e2
          go_wp2_with fail
          refine wp_region_held_drew (S := fun w' => Below w.heap.size w w') (by kernel_rfl) HBq.drew (fun hHeld => ?_)
          refine take_in (v := ?_) 17 0 rfl rfl (by kernel_rfl) (by kernel_rfl) (by kernel_rfl) (fun _ _ _ h => h) (by rfl) ?_ (by assumption) ?_
          rotate_left 1
          · (intro w hSw; go_simp; (try with_reducible rfl))
          (try simp only [List.setIfInBounds_toArray, List.set_cons_zero, List.set_cons_succ])
          refine take_in (v := ?_) 18 1 rfl rfl (by kernel_rfl) (by kernel_rfl) (by kernel_rfl) (fun _ _ _ h => h) (by rfl) ?_ (by assumption) ?_
          rotate_left 1
          · (intro w hSw; go_simp; (try with_reducible rfl))
          (try simp only [List.setIfInBounds_toArray, List.set_cons_zero, List.set_cons_succ])
          refine take_in (v := ?_) 19 2 rfl rfl (by kernel_rfl) (by kernel_rfl) (by kernel_rfl) (fun _ _ _ h => h) (by rfl) ?_ (by assumption) ?_
          rotate_left 1
          · (intro w hSw; go_simp; (try with_reducible rfl))
          (try simp only [List.setIfInBounds_toArray, List.set_cons_zero, List.set_cons_succ])
          refine take_in (v := ?_) 20 3 rfl rfl (by kernel_rfl) (by kernel_rfl) (by kernel_rfl) (fun _ _ _ h => h) (by rfl) ?_ (by assumption) ?_
          rotate_left 1
          · (intro w hSw; have z1 := (hSw.cell (p := ⟨b1, o1 + k, none⟩) hb1).trans e10; go_simp; (try with_reducible rfl))
          (try simp only [List.setIfInBounds_toArray, List.set_cons_zero, List.set_cons_succ])
          refine take_in (v := ?_) 21 4 rfl rfl (by kernel_rfl) (by kernel_rfl) (by kernel_rfl) (fun _ _ _ h => h) (by rfl) ?_ (by assumption) ?_
          rotate_left 1
          · (intro w hSw; go_simp; (try with_reducible rfl))
          (try simp only [List.setIfInBounds_toArray, List.set_cons_zero, List.set_cons_succ])
          refine take_in (v := ?_) 22 5 rfl rfl (by kernel_rfl) (by kernel_rfl) (by kernel_rfl) (fun _ _ _ h => h) (by rfl) ?_ (by assumption) ?_
          rotate_left 1
          · (intro w hSw; go_simp; (try with_reducible rfl))
          (try simp only [List.setIfInBounds_toArray, List.set_cons_zero, List.set_cons_succ])
          refine take_in (v := ?_) 23 6 rfl rfl (by kernel_rfl) (by kernel_rfl) (by kernel_rfl) (fun _ _ _ h => h) (by rfl) ?_ (by assumption) ?_
          rotate_left 1
          · (intro w hSw; go_simp; (try with_reducible rfl))
          (try simp only [List.setIfInBounds_toArray, List.set_cons_zero, List.set_cons_succ])
          refine take_in (v := ?_) 24 7 rfl rfl (by kernel_rfl) (by kernel_rfl) (by kernel_rfl) (fun _ _ _ h => h) (by rfl) ?_ (by assumption) ?_
          rotate_left 1
          · (intro w hSw; have z2 := (hSw.cell (p := ⟨b2, o2 + k, none⟩) hb2).trans e20; go_simp; (try with_reducible rfl))
          (try simp only [List.setIfInBounds_toArray, List.set_cons_zero, List.set_cons_succ])
          refine wpAnyH_ready (rs := [8]) (by kernel_rfl) (by simp) ?_
          refine AllReadyH.cons rfl (fun K hK => ?_) AllReadyH.nil
          go_simp
          refine (HT.out _ hHeld).mono ?_
          rintro e wC ⟨rfl, hbC⟩
          go_wp2_with fail
          refine hK.out _ _ (bstep hHeld (Nat.le_refl _) hbC) (fun hHeld => ?_)
          clear hK K
          (try simp only [List.setIfInBounds_toArray, List.set_cons_zero, List.set_cons_succ])
          refine take_in (v := ?_) 26 9 rfl rfl (by kernel_rfl) (by kernel_rfl) (by kernel_rfl) (fun _ _ _ h => h) (by rfl) ?_ (by assumption) ?_
          rotate_left 1
          · (intro w hSw; go_simp; (try with_reducible rfl))
          (try simp only [List.setIfInBounds_toArray, List.set_cons_zero, List.set_cons_succ])
          refine wpAnyH_done (by kernel_rfl) ?_ _
          go_wp2_with fail
          go_ret
          exact ⟨ebool HAB.out.symm, hHeld⟩
      · obtain rfl : k = n1 := by omega
        have HAB := Lib.hid (decide_eq_true (ext_getD_nil (a := a) (b := b) (by rw [HA.out, HB.out]) (fun j hj => HE.out j (by rw [← HA.out]; exact hj))))
        go_wp2_with fail
        go_ret
        exact ⟨ebool HAB.out.symm, hbel⟩
  · have t0 : ((n1 : Int) != (n2 : Int)) = true := by simp; omega
    have HAB := Lib.hid (decide_eq_false (show a ≠ b from fun e => hl (by rw [← HA.out, ← HB.out, e])))
    clear hl
    go_enter Try.func13, Try.ntmps13
    go_wp2_with fail
    go_ret
    exact ⟨ebool HAB.out.symm, Below.refl _ _⟩
end Go.Proofs.Ythejbmjleohlfaa
