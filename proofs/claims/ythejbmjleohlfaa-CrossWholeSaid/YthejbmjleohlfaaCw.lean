/- The walk of the statement CrossWhole: what Mend tells are volumes and what Recovery makes of them; of one row of each. -/
import Derived.Test.YthejbmjleohlfaaCv
import Derived.Test.YthejbmjleohlfaaCu
import Derived.Test.YthejbmjleohlfaaTk
namespace Go.Proofs.Ythejbmjleohlfaa
set_option linter.unusedVariables false
set_option linter.unusedSimpArgs false
open Go.RowKit Go.Shelf

theorem app_left {α : Type} {P X : List α} {i : Nat} (d : α) (h : i < P.length) : (P ++ X).getD i d = P.getD i d := by rw [List.getD, List.getD, List.getElem?_append_left h]
theorem app_right {α : Type} (P X : List α) (i : Nat) (d : α) : (P ++ X).getD (P.length + i) d = X.getD i d := by rw [List.getD, List.getD, List.getElem?_append_right (by omega), Nat.add_sub_cancel_left]
theorem RdSS.left {w : World} {B : Nat} {A : Option Addr} {H : Nat → Option Addr × Nat} {P X : List (List (List UInt8))} (h : RdSS w B A H (P ++ X)) : RdSS w B A H P := by
  refine ⟨fun hp => ?_, fun i hi => ?_, fun i hi => ?_⟩
  · obtain ⟨b, off, hA, hb, hc⟩ := h.top (by rw [hdV_length] at hp ⊢; rw [List.length_append]; omega)
    refine ⟨b, off, hA, hb, fun j v hv => hc j v ?_⟩
    have hj : j < P.length := by
      rcases Nat.lt_or_ge j P.length with h | h
      · exact h
      · rw [List.getElem?_eq_none (by rw [hdV_length]; exact h)] at hv; cases hv
    rw [hdV_get _ hj] at hv
    rw [hdV_get _ (by rw [List.length_append]; omega), app_left [] hj, hv]
  · rw [← app_left (X := X) [] hi]; exact h.rows i (by rw [List.length_append]; omega)
  · rw [← app_left (X := X) [] hi]; exact h.lens i (by rw [List.length_append]; omega)
theorem RdSS.right {w : World} {B g k : Nat} {A' : Option Addr} {H : Nat → Option Addr × Nat} {P X : List (List (List UInt8))} (hk : P.length = k) (h : RdSS w B (some ⟨g, 0, none⟩) H (P ++ X)) (hA : 0 < X.length → A' = some ⟨g, k, none⟩) : RdSS w B A' (fun i => H (k + i)) X := by
  subst hk
  refine ⟨fun hp => ?_, fun i hi => ?_, fun i hi => ?_⟩
  · rw [hdV_length] at hp
    obtain ⟨b, off, e, hb, hc⟩ := h.top (by rw [hdV_length, List.length_append]; omega)
    injection e with e
    injection e with e1 e2
    subst e1 e2
    refine ⟨g, P.length, hA hp, hb, fun j v hv => ?_⟩
    have hj : j < X.length := by
      rcases Nat.lt_or_ge j X.length with h | h
      · exact h
      · rw [List.getElem?_eq_none (by rw [hdV_length]; exact h)] at hv; cases hv
    have := hc (P.length + j) v (by rw [hdV_get _ hj] at hv; rw [hdV_get _ (by rw [List.length_append]; omega), app_right, hv])
    rw [Nat.zero_add] at this
    exact this
  · have := h.rows (P.length + i) (by rw [List.length_append]; omega)
    rw [app_right] at this
    exact this
  · have := h.lens (P.length + i) (by rw [List.length_append]; omega)
    rw [app_right] at this
    exact this

theorem from_k {g n c k m x : Nat} (h1 : k ≤ n) (h2 : n ≤ c) (h3 : n - k = m) (hx : x = m) : ∃ (AK : Option Addr) (cK : Nat), (∀ W : World, (Instr.slice 23 (.slice (some ⟨g, 0, none⟩) n c) (some (.int .i64 (k : Int))) none none).run Try.prog W = .ok (.slice AK m cK) W) ∧ (0 < x → AK = some ⟨g, k, none⟩) := by
  have i1 : (0 : Int) ≤ (k : Int) := by omega
  have i3 : (k : Int) ≤ (n : Int) := by omega
  have i5 : ((k : Int)).toNat = k := rfl
  by_cases hck : c = k
  · subst hck
    exact ⟨some ⟨g, 0, none⟩, 0, fun W => by go_simp, fun h => absurd h (by omega)⟩
  · exact ⟨some ⟨g, k, none⟩, c - k, fun W => by go_simp, fun _ => rfl⟩

set_option maxRecDepth 100000 in
set_option maxHeartbeats 8000000 in
theorem whole_walk (A1 : Option Addr) (n1 c1 : Nat) (kz row D R S M : Int) (H1 : Nat → Option Addr × Nat) (L : List (List (List UInt8))) (w : World) (hl : L.length = n1) (hrd : RdSS w w.heap.size A1 H1 L) (hn : n1 ≤ 9223372036854775807) :
    Calls Try.prog 5 #[shV D R S M, .int .i64 kz, .slice A1 n1 c1, .int .i64 row] w fun e w' => e = .returned (.bool true) ∧ Below w.heap.size w w' := by
  have HL := Lib.hid hl
  have RA := Lib.hid hrd
  have HN := Lib.hid hn
  clear hl hrd hn
  have SA := ShapeAt.new w D R S M
  have BA := balloc w (shO D R S M)
  unfold shO at SA BA
  unfold shV
  go_enter Try.func5, Try.ntmps5
  go_wp2_with fail
  obtain ⟨w1, hw1⟩ : ∃ w1, w1 = w.alloc (.cells #[.int .i64 D, .int .i64 R, .int .i64 S, .int .i64 M] 31) := ⟨_, rfl⟩
  have hs1 : w1.heap.size = w.heap.size + 1 := by rw [hw1]; simp
  rw [← hw1] at SA BA
  rw [← hw1]
  clear hw1
  have SH := Lib.hid SA
  have HB := Lib.hid BA
  replace RA := Lib.hid ((RA.out.below BA).more BA.size)
  clear SA BA
  refine (works_any _).mono ?_
  rintro e w2 ⟨rfl, hb2⟩
  replace SH := Lib.hid (SH.out.below (by omega) hb2)
  replace HB := Lib.hid (bstep HB.out (Nat.le_refl _) hb2)
  replace RA := Lib.hid ((RA.out.below hb2).more hb2.size)
  have hs2 := hb2.size
  clear hb2 
  have y0 := SH.out.d
  have y1 := SH.out.r
  have y2 := SH.out.s
  have y3 := SH.out.m
  go_wp2_with fail
  refine (large_any A1 n1 c1 D R S M H1 L _ HL.out RA.out HN.out).mono ?_
  rintro e w3 ⟨q1, rfl, hb3, hq1⟩
  replace SH := Lib.hid (SH.out.below (by omega) hb3)
  replace HB := Lib.hid (bstep HB.out (Nat.le_refl _) hb3)
  replace RA := Lib.hid ((RA.out.below hb3).more hb3.size)
  have hs3 := hb3.size
  clear hb3 
  clear y0 y1 y2 y3
  cases q1 with
  | true =>
    go_wp2_with fail
    refine (works_any _).mono ?_
    rintro e wz ⟨rfl, hbz⟩
    go_wp2_with fail
    go_ret
    exact ⟨rfl, bstep HB.out (Nat.le_refl _) hbz⟩
  | false =>
    have hn200 := hq1 rfl
    clear hq1
    have y0 := SH.out.d
    have y1 := SH.out.r
    have y2 := SH.out.s
    have y3 := SH.out.m
    go_wp2_with fail
    refine (crossMend_any A1 n1 c1 D R S M kz H1 L _ HL.out RA.out (by omega)).mono ?_
    rintro e w4 ⟨A4, n4, c4, H4, L4, x4, rfl, ho4, hm4, hb4⟩
    replace SH := Lib.hid (SH.out.below (by omega) hb4)
    replace HB := Lib.hid (bstep HB.out (Nat.le_refl _) hb4)
    replace RA := Lib.hid ((RA.out.below hb4).more hb4.size)
    have hs4 := hb4.size
    clear hb4 
    clear y0 y1 y2 y3
    cases hm4 with
    | bad h =>
      have t1 : (mendCode D R S M kz L != 0) = true := by simpa using h
      obtain rfl : n4 = 0 := ho4.len.symm
      clear h ho4
      generalize mendCode D R S M kz L = e1 at t1
      go_wp2_with fail
      go_ret
      exact ⟨rfl, HB.out⟩
    | lost h r p hr hp hno =>
      obtain rfl : n4 = 0 := ho4.len.symm
      clear h ho4 hno hr hp
      go_wp2_with fail
      go_ret
      exact ⟨rfl, HB.out⟩
    | made f h hf =>
      obtain ⟨h1, h2, h3, h4, h5⟩ := mendCode_zero h
      obtain ⟨d, s, m, hh, rfl, rfl, rfl, hs, hd1, hd2, hsz, hm2, hh1⟩ := shape_nat h1
      obtain ⟨k, rfl⟩ : ∃ k : Nat, kz = (k : Int) := ⟨kz.toNat, by omega⟩
      have hLk : L.length = k + m := by omega
      rw [hLk] at ho4 hf h5
      have e1 : (s : Int).toNat / 2 = hh := by omega
      have e2 : (d : Int).toNat = d := rfl
      have e3 : (s : Int).toNat = s := rfl
      have e4 : (m : Int).toNat = m := rfl
      rw [e2, e3] at ho4
      rw [e1, e2, e4] at hf
      rw [made_split (m := m) (k := k) hd1 hs (by omega) (fun r p hr hp => (hf r p hr hp).len) (fun r p hr hp => (hf r p hr hp).right)] at ho4
      have hP : (tabL k d s (mendF f)).length = k := tabL_length _ _ _ _
      have hPR : ∀ i, i < k → Reg d s ((tabL k d s (mendF f)).getD i []) := fun i hi => by rw [tabL_get _ _ _ hi]; exact reg_tab 0 d s _ _
      generalize tabL k d s (mendF f) = P at ho4 hP hPR
      have hX := recL_length d s m P
      have hXR := reg_rec d s m P
      have hk1 : 1 ≤ k := by omega
      have HRW := Lib.hid (fun r (hr : r < d) => rec_rows (d := d) (s := s) (m := m) hP hPR hr hs)
      have HWR := Lib.hid (fun r p (hr : r < d) (hp : p < hh) => word_right (M := m) hP hd1 hr hp hs)
      have HPC := Lib.hid (recCode_reg h1 hP hk1 h5 hPR)
      have HPV := Lib.hid (recVols_nat HPC.out)
      generalize hXX : recL d s m P = X at ho4 hX hXR HRW HWR HPV
      have HXX := Lib.hid hXX
      have HN4 := Lib.hid (show n4 = k + m by rw [← ho4.len, List.length_append, hP, hX])
      have hkn : k ≤ n4 := by have := HN4.out; omega
      have hcp := ho4.top.cap
      obtain ⟨g4, rfl, _, _⟩ := ho4.top.form (by omega)
      have RV := Lib.hid ho4.rd
      have HP := Lib.hid hP
      have HPR := Lib.hid hPR
      have HX := Lib.hid hX
      have HXR := Lib.hid hXR
      have HH1 := Lib.hid h1
      have HHS := Lib.hid hs
      have HK96 := Lib.hid h5
      clear h h2 h3 h4 hf hLk ho4 hP hPR hX hXR hXX h1 hs h5 e1 e2 e3 e4
      have hc4 : k ≤ c4 := by omega
      have hk96 : k ≤ 96 := by have := HK96.out; omega
      have i1 : (0 : Int) ≤ (k : Int) := by omega
      have i2 : (k : Int) ≤ (c4 : Int) := by omega
      have i3 : (k : Int) ≤ (n4 : Int) := by omega
      have i4 : ¬ c4 = 0 := by omega
      have i5 : ((k : Int)).toNat = k := rfl
      have y0 := SH.out.d
      have y1 := SH.out.r
      have y2 := SH.out.s
      have y3 := SH.out.m
      go_wp2_with fail
      clear y0 y1 y2 y3
      refine wp_region_held_drew (S := fun w' => Below w4.heap.size w4 w') (by kernel_rfl) (Below.refl _ _).drew (fun hHeld => ?_)
      refine take_in (v := ?_) 42 0 rfl rfl (by kernel_rfl) (by kernel_rfl) (by kernel_rfl) (fun _ _ _ h => h) (by rfl) ?_ (by assumption) ?_
      rotate_left 1
      · (intro w hSw; have SHW := SH.out.below (by omega) hSw; have y0 := SHW.d; have y1 := SHW.r; have y2 := SHW.s; have y3 := SHW.m; go_simp; (try with_reducible rfl))
      (try simp only [List.setIfInBounds_toArray, List.set_cons_zero, List.set_cons_succ])
      refine take_in (v := ?_) 43 1 rfl rfl (by kernel_rfl) (by kernel_rfl) (by kernel_rfl) (fun _ _ _ h => h) (by rfl) ?_ (by assumption) ?_
      rotate_left 1
      · (intro w hSw; go_simp; (try with_reducible rfl))
      (try simp only [List.setIfInBounds_toArray, List.set_cons_zero, List.set_cons_succ])
      refine take_in (v := ?_) 44 2 rfl rfl (by kernel_rfl) (by kernel_rfl) (by kernel_rfl) (fun _ _ _ h => h) (by rfl) ?_ (by assumption) ?_
      rotate_left 1
      · (intro w hSw; go_simp; (try with_reducible rfl))
      (try simp only [List.setIfInBounds_toArray, List.set_cons_zero, List.set_cons_succ])
      refine take_in (v := ?_) 45 3 rfl rfl (by kernel_rfl) (by kernel_rfl) (by kernel_rfl) (fun _ _ _ h => h) (by rfl) ?_ (by assumption) ?_
      rotate_left 1
      · (intro w hSw; go_simp; (try with_reducible rfl))
      (try simp only [List.setIfInBounds_toArray, List.set_cons_zero, List.set_cons_succ])
      refine wpAnyH_ready (rs := [4]) (by kernel_rfl) (by simp) ?_
      refine AllReadyH.cons rfl (fun KK hK => ?_) AllReadyH.nil
      go_simp
      refine (rec_any (some ⟨g4, 0, none⟩) k c4 d R s m H4 P _ HP.out ((RV.out.left.below hHeld).more hHeld.size) (by omega)).mono ?_
      rintro e wC6 ⟨A6, n6, c6, H6, rfl, ho6, hbC⟩
      rw [HPC.out]
      go_wp2_with fail
      refine hK.out _ _ (bstep hHeld (Nat.le_refl _) hbC) (fun hHeld => ?_)
      clear hK KK
      (try simp only [List.setIfInBounds_toArray, List.set_cons_zero, List.set_cons_succ])
      refine take_in (v := ?_) 41 5 rfl rfl (by kernel_rfl) (by kernel_rfl) (by kernel_rfl) (fun _ _ _ h => h) (by rfl) ?_ (by assumption) ?_
      rotate_left 1
      · (intro w hSw; go_simp; (try with_reducible rfl))
      (try simp only [List.setIfInBounds_toArray, List.set_cons_zero, List.set_cons_succ])
      refine take_in (v := ?_) 47 6 rfl rfl (by kernel_rfl) (by kernel_rfl) (by kernel_rfl) (fun _ _ _ h => h) (by rfl) ?_ (by assumption) ?_
      rotate_left 1
      · (intro w hSw; go_simp; (try with_reducible rfl))
      (try simp only [List.setIfInBounds_toArray, List.set_cons_zero, List.set_cons_succ])
      refine take_in (v := ?_) 48 7 rfl rfl (by kernel_rfl) (by kernel_rfl) (by kernel_rfl) (fun _ _ _ h => h) (by rfl) ?_ (by assumption) ?_
      rotate_left 1
      · (intro w hSw; go_simp; (try with_reducible rfl))
      (try simp only [List.setIfInBounds_toArray, List.set_cons_zero, List.set_cons_succ])
      refine take_in (v := ?_) 11 8 rfl rfl (by kernel_rfl) (by kernel_rfl) (by kernel_rfl) (fun _ _ _ h => h) (by rfl) ?_ (by assumption) ?_
      rotate_left 1
      · (intro w hSw; go_simp; (try with_reducible rfl))
      (try simp only [List.setIfInBounds_toArray, List.set_cons_zero, List.set_cons_succ])
      refine take_in (v := ?_) 12 9 rfl rfl (by kernel_rfl) (by kernel_rfl) (by kernel_rfl) (fun _ _ _ h => h) (by rfl) ?_ (by assumption) ?_
      rotate_left 1
      · (intro w hSw; go_simp; (try with_reducible rfl))
      (try simp only [List.setIfInBounds_toArray, List.set_cons_zero, List.set_cons_succ])
      refine wpAnyH_done (by kernel_rfl) ?_ _
      rw [HPV.out] at ho6
      obtain rfl : m = n6 := by rw [← ho6.len, HX.out]
      have RR := Lib.hid ho6.rd
      have hbN := hHeld
      replace SH := Lib.hid (SH.out.below (by omega) hbN)
      replace HB := Lib.hid (bstep HB.out (Nat.le_refl _) hbN)
      replace RA := Lib.hid ((RA.out.below hbN).more hbN.size)
      replace RV := Lib.hid ((RV.out.below hbN).more hbN.size)
      have hsC6 := hbN.size
      clear ho6 hbN hHeld hbC
      have HVL := Lib.hid (show (P ++ X).length = n4 by rw [List.length_append, HP.out, HX.out, HN4.out])
      have HVR := Lib.hid (show ∀ i, i < n4 → Reg d s ((P ++ X).getD i []) from fun i hi => by
        rcases Nat.lt_or_ge i k with h | h
        · rw [app_left [] (by rw [HP.out]; exact h)]; exact HPR.out i h
        · have e := app_right P X (i - k) []
          rw [HP.out, show k + (i - k) = i by omega] at e
          rw [e]
          exact HXR.out _ (by have := HN4.out; omega))
      have HWN := Lib.hid (show ∀ r p, r < d → p < hh → Nought (wordL (P ++ X) n4 r (2 * p)) m by rw [HN4.out]; exact HWR.out)
      have hn96 : n4 ≤ 96 := by rw [HN4.out]; exact HK96.out
      have y0 := SH.out.d
      have y1 := SH.out.r
      have y2 := SH.out.s
      have y3 := SH.out.m
      go_wp2_with fail
      refine (crossMend_any (some ⟨g4, 0, none⟩) n4 c4 d R s m k H4 (P ++ X) _ HVL.out RV.out (by omega)).mono ?_
      rintro e w6 ⟨A7, n7, c7, H7, L7, x7, rfl, ho7, hm7, hb6⟩
      obtain ⟨hL7, hx7⟩ := left_is (HC := H4) (HV := H4) HH1.out HHS.out hd1 hk1 HN4.out hn96 HVL.out HVR.out HWN.out ⟨HVL.out, gone_none hd1 HVR.out, fun i hi => .inl ⟨rfl, rfl⟩⟩ (Nat.zero_le _) hm7
      rw [hL7] at ho7
      subst hx7
      obtain rfl : n4 = n7 := by rw [← ho7.len, HVL.out]
      have R7 := Lib.hid ho7.rd
      clear ho7 hm7 hL7
      replace SH := Lib.hid (SH.out.below (by omega) hb6)
      replace HB := Lib.hid (bstep HB.out (Nat.le_refl _) hb6)
      replace RA := Lib.hid ((RA.out.below hb6).more hb6.size)
      replace RV := Lib.hid ((RV.out.below hb6).more hb6.size)
      replace RR := Lib.hid ((RR.out.below hb6).more hb6.size)
      have hs6 := hb6.size
      clear hb6 
      have hsub : n4 - k = m := by have := HN4.out; omega
      have HLX := Lib.hid (show ∀ i, i < m → (X.getD i []).length ≤ 1000000 from fun i hi => by rw [(HXR.out i hi).1]; omega)
      have HLV := Lib.hid (show ∀ i, i < n4 → ((P ++ X).getD i []).length ≤ 1000000 from fun i hi => by rw [(HVR.out i hi).1]; omega)
      clear y0 y1 y2 y3
      obtain ⟨AK, cK, hsl, hAK⟩ : ∃ (AK : Option Addr) (cK : Nat), (∀ W : World, (Instr.slice 23 (.slice (some ⟨g4, 0, none⟩) n4 c4) (some (.int .i64 (k : Int))) none none).run Try.prog W = .ok (.slice AK m cK) W) ∧ (0 < X.length → AK = some ⟨g4, k, none⟩) := from_k hkn hcp.1 hsub HX.out
      have RK := Lib.hid (show RdSS w6 w6.heap.size AK (fun i => H4 (k + i)) X from RdSS.right (H := H4) (P := P) (k := k) HP.out RV.out hAK)
      obtain ⟨HK4, hHK⟩ : ∃ Z, Z = fun i => H4 (k + i) := ⟨_, rfl⟩
      rw [← hHK] at RK
      clear hHK hAK i3
      go_wp2_with fail
      refine (same_eq A6 AK m c6 m cK w6.heap.size w6.heap.size H6 HK4 X X w6 HX.out HX.out RR.out RK.out (Nat.le_refl _) (Nat.le_refl _) (by omega) HLX.out).mono ?_
      rintro e w7 ⟨rfl, hb7⟩
      rw [show decide (X = X) = true from decide_eq_true rfl]
      clear hsl
      replace SH := Lib.hid (SH.out.below (by omega) hb7)
      replace HB := Lib.hid (bstep HB.out (Nat.le_refl _) hb7)
      replace RA := Lib.hid ((RA.out.below hb7).more hb7.size)
      replace RV := Lib.hid ((RV.out.below hb7).more hb7.size)
      replace RR := Lib.hid ((RR.out.below hb7).more hb7.size)
      replace R7 := Lib.hid ((R7.out.below hb7).more hb7.size)
      have hs7 := hb7.size
      clear hb7 
      go_wp2_with fail
      refine (same_eq (some ⟨g4, 0, none⟩) A7 n4 c4 n4 c7 _ _ H4 H7 (P ++ X) (P ++ X) _ HVL.out HVL.out RV.out R7.out (Nat.le_refl _) (Nat.le_refl _) (by omega) HLV.out).mono ?_
      rintro e w8 ⟨rfl, hb8⟩
      rw [show decide (P ++ X = P ++ X) = true from decide_eq_true rfl]
      replace SH := Lib.hid (SH.out.below (by omega) hb8)
      replace HB := Lib.hid (bstep HB.out (Nat.le_refl _) hb8)
      replace RA := Lib.hid ((RA.out.below hb8).more hb8.size)
      replace RV := Lib.hid ((RV.out.below hb8).more hb8.size)
      replace RR := Lib.hid ((RR.out.below hb8).more hb8.size)
      replace R7 := Lib.hid ((R7.out.below hb8).more hb8.size)
      have hs8 := hb8.size
      clear hb8 
      have e9 := zslot row hd1 (by omega)
      have hq := zmod_lt row hd1
      generalize zmod row d = q at e9 hq
      have y0 := SH.out.d
      have y1 := SH.out.r
      have y2 := SH.out.s
      have y3 := SH.out.m
      go_wp2_with fail
      clear y0 y1 y2 y3
      rw [e9]
      clear e9
      have HBB := Lib.hid (Below.refl w8.heap.size w8)
      go_loopw [16, 17] (fun v i wr => ∃ (j : Nat) (A : Option Addr) (c : Nat) (H : Nat → Option Addr × Nat), j ≤ k ∧ i = .int .i64 j ∧ v = .slice A j c ∧ OwnSS wr w8.heap.size A j c H ((List.range j).map fun i => [(P.getD i []).getD q []]) ∧ Below w8.heap.size w8 wr) (fun _ i _ => k - (intOf i).toNat)
      case atStart => exact ⟨0, none, 0, fun _ => (none, 0), Nat.zero_le _, rfl, rfl, OwnSS.nil _ _ _, Below.refl _ _⟩
      case round =>
        obtain ⟨j, A, c, H, hj, rfl, rfl, hown, hbel⟩ := hrel
        have HO := Lib.hid hown
        have HBJ := Lib.hid hbel
        have hsj := hbel.size
        clear hown hbel
        by_cases hjk : j < k
        · have RVJ := Lib.hid ((RV.out.below HBJ.out).more hsj)
          have hjl : j < (P ++ X).length := by rw [List.length_append, HP.out]; omega
          obtain ⟨bh, oh, eh, hbh, f1⟩ := RVJ.out.cell (i := j) hjl
          cases eh
          rw [Nat.zero_add, (HVR.out j (by omega)).1] at f1
          obtain ⟨bq, oq, eq1, hbq, f2⟩ := RVJ.out.rowCell (i := j) (r := q) hjl (by rw [(HVR.out j (by omega)).1]; exact hq)
          rw [eq1] at f1
          rw [app_left [] (by rw [HP.out]; exact hjk)] at f2
          have HTL := range_next (fun i => [(P.getD i []).getD q []]) j
          generalize (P.getD j []).getD q [] = x at f2 HTL
          generalize (H4 j).2 = ch at f1
          have HTLL := Lib.hid HTL
          clear HTL eq1
          have i6 : (0 : Int) ≤ (j : Int) := by omega
          have i7 : (j : Int) < (n4 : Int) := by omega
          have i8 : (0 : Int) ≤ (q : Int) := by omega
          have i9 : (q : Int) < (d : Int) := by omega
          go_wp2_with fail
          refine (one_any x _).mono ?_
          rintro e wo ⟨rfl, hwo⟩
          have hbo : Below wr.heap.size wr wo := by rw [hwo]; exact balloc _ _
          have HR := Lib.hid (show OwnV 9 wo w8.heap.size (some ⟨wr.heap.size, 0, none⟩) 1 1 [sv x] by rw [hwo]; exact OwnV.lit wr w8.heap.size [sv x] #[sv x] hsj (by simp) rfl)
          have HO2 := Lib.hid (HO.out.below hbo)
          have HB2 := Lib.hid (bstep HBJ.out (Nat.le_refl _) hbo)
          have hso := HB2.out.size
          obtain ⟨bo, hbo2⟩ : ∃ bo, bo = wr.heap.size := ⟨_, rfl⟩
          rw [← hbo2] at HR ⊢
          clear hwo hbo hbo2 HO f1 f2
          go_wp2_with (at_builtin; refine wpList_pushV strs_el _ rfl _ _ rfl w8.heap.size _ _ _ _ rfl (HO2.out.top.alloc _) wo.heap.size 1 (.slice (some ⟨bo, 0, none⟩) 1 1) rfl rfl (by go_cell) (by omega) (by simp; omega) ?_; intro A3 c3 w3 hown3 hb3 hg3)
          have hp := (HO2.out.alloc (.cells #[.slice (some ⟨bo, 0, none⟩) 1 1] 24)).push (v := [x]) (h := (some ⟨bo, 0, none⟩, 1)) (HR.out.alloc _) hown3 hg3
          go_roundw
          case rel => exact ⟨j + 1, A3, c3, _, by omega, by go_num, rfl, by rw [← HTLL.out]; exact hp, (HB2.out.alloc hso _).trans hb3⟩
          case measure => simp only [intOf]; omega
        · obtain rfl : j = k := by omega
          have hHeld := HBJ.out
          have RQ := Lib.hid (show RdSS wr wr.heap.size A H (rowsL P q) by unfold rowsL; rw [HP.out]; exact HO.out.rd)
          replace SH := Lib.hid (SH.out.below (by omega) hHeld)
          replace HB := Lib.hid (bstep HB.out (Nat.le_refl _) hHeld)
          replace RA := Lib.hid ((RA.out.below hHeld).more hHeld.size)
          replace RV := Lib.hid ((RV.out.below hHeld).more hHeld.size)
          replace RR := Lib.hid ((RR.out.below hHeld).more hHeld.size)
          replace R7 := Lib.hid ((R7.out.below hHeld).more hHeld.size)
          have hsr := hHeld.size
          clear HO HBJ hHeld HBB
          have HQL := Lib.hid (show (rowsL P q).length = j by rw [rowsL_length, HP.out])
          have HQC := Lib.hid (show recCode 1 R s m (rowsL P q) = 0 from recCode_reg (d := 1) (shape_one HH1.out) HQL.out hk1 HK96.out (reg_rows HP.out HPR.out hq))
          have HQV := Lib.hid (show recVols 1 R s m (rowsL P q) = recL 1 s m (rowsL P q) from recVols_nat (d := 1) HQC.out)
          have HYR := Lib.hid (HRW.out q hq)
          have HYL := Lib.hid (recL_length 1 s m (rowsL P q))
          have y0 := SH.out.d
          have y1 := SH.out.r
          have y2 := SH.out.s
          have y3 := SH.out.m
          go_wp2_with fail
          refine (rec_any A j c 1 R s m H (rowsL P q) _ HQL.out RQ.out (by omega)).mono ?_
          rintro e w10 ⟨A8, n8, c8, H8, rfl, ho8, hb10⟩
          rw [HQC.out]
          rw [HQV.out] at ho8
          obtain rfl : m = n8 := by rw [← ho8.len, HYL.out]
          generalize recL 1 s m (rowsL P q) = Y at ho8 HYR HYL
          have RY := Lib.hid ho8.rd
          clear ho8
          replace SH := Lib.hid (SH.out.below (by omega) hb10)
          replace HB := Lib.hid (bstep HB.out (Nat.le_refl _) hb10)
          replace RA := Lib.hid ((RA.out.below hb10).more hb10.size)
          replace RV := Lib.hid ((RV.out.below hb10).more hb10.size)
          replace RR := Lib.hid ((RR.out.below hb10).more hb10.size)
          replace R7 := Lib.hid ((R7.out.below hb10).more hb10.size)
          replace RQ := Lib.hid ((RQ.out.below hb10).more hb10.size)
          have hs10 := hb10.size
          clear hb10 
          clear y0 y1 y2 y3
          have y0 := SH.out.d
          have y1 := SH.out.r
          have y2 := SH.out.s
          have y3 := SH.out.m
          go_wp2_with fail
          clear y0 y1 y2 y3
          obtain ⟨wo2, rfl⟩ : ∃ v, v = wr := ⟨_, rfl⟩
          go_loopw [20] (fun i wr => ∃ t : Nat, t ≤ m ∧ i = .int .i64 t ∧ Below w10.heap.size w10 wr) (fun i _ => m - (intOf i).toNat)
          case atStart => exact ⟨0, Nat.zero_le _, rfl, Below.refl _ _⟩
          case round =>
            obtain ⟨t, ht, rfl, hbel⟩ := hrel
            have HBZ := Lib.hid hbel
            clear hbel
            by_cases htm : t < m
            · obtain ⟨b8, o8, rfl, hb8, g1⟩ := (RY.out.below HBZ.out).cell (i := t) (by rw [HYL.out]; exact htm)
              obtain ⟨b9, o9, eq8, hb9, g2⟩ := (RY.out.below HBZ.out).rowCell (i := t) (r := 0) (by rw [HYL.out]; exact htm) (by rw [HYR.out t htm]; simp)
              obtain ⟨b6, o6, rfl, hb6, g3⟩ := (RR.out.below HBZ.out).cell (i := t) (by rw [HX.out]; exact htm)
              obtain ⟨b5, o5, eq6, hb5, g5⟩ := (RR.out.below HBZ.out).rowCell (i := t) (r := q) (by rw [HX.out]; exact htm) (by rw [(HXR.out t htm).1]; exact hq)
              rw [HYR.out t htm] at g1 g2
              rw [(HXR.out t htm).1] at g3
              rw [eq8] at g1
              rw [eq6] at g3
              replace g2 : wr.cell? ⟨b9, o9, none⟩ = some (sv ((X.getD t []).getD q [])) := g2
              replace g1 : wr.cell? ⟨b8, o8 + t, none⟩ = some (.slice (some ⟨b9, o9, none⟩) 1 (H8 t).2) := g1
              generalize (X.getD t []).getD q [] = z at g2 g5
              generalize (H8 t).2 = ch8 at g1
              generalize (H6 t).2 = ch6 at g3
              unfold sv at g2 g5
              clear eq8 eq6
              have i6 : (0 : Int) ≤ (t : Int) := by omega
              have i7 : (t : Int) < (m : Int) := by omega
              have i8 : (0 : Int) ≤ (q : Int) := by omega
              have i9 : (q : Int) < (d : Int) := by omega
              have hb8' := Nat.lt_of_lt_of_le hb8 HBZ.out.size
              have hb9' := Nat.lt_of_lt_of_le hb9 HBZ.out.size
              have hb6' := Nat.lt_of_lt_of_le hb6 HBZ.out.size
              have hb5' := Nat.lt_of_lt_of_le hb5 HBZ.out.size
              go_wp2_with fail
              refine wp_region_held_drew (S := fun w' => Below wr.heap.size wr w') (by kernel_rfl) (Below.refl _ _).drew (fun hHeld => ?_)
              refine take_in (v := ?_) 117 0 rfl rfl (by kernel_rfl) (by kernel_rfl) (by kernel_rfl) (fun _ _ _ h => h) (by rfl) ?_ (by assumption) ?_
              rotate_left 1
              · (intro w hSw; go_simp; (try with_reducible rfl))
              (try simp only [List.setIfInBounds_toArray, List.set_cons_zero, List.set_cons_succ])
              refine take_in (v := ?_) 118 1 rfl rfl (by kernel_rfl) (by kernel_rfl) (by kernel_rfl) (fun _ _ _ h => h) (by rfl) ?_ (by assumption) ?_
              rotate_left 1
              · (intro w hSw; go_simp; (try with_reducible rfl))
              (try simp only [List.setIfInBounds_toArray, List.set_cons_zero, List.set_cons_succ])
              refine take_in (v := ?_) 119 2 rfl rfl (by kernel_rfl) (by kernel_rfl) (by kernel_rfl) (fun _ _ _ h => h) (by rfl) ?_ (by assumption) ?_
              rotate_left 1
              · (intro w hSw; go_simp; (try with_reducible rfl))
              (try simp only [List.setIfInBounds_toArray, List.set_cons_zero, List.set_cons_succ])
              refine take_in (v := ?_) 120 3 rfl rfl (by kernel_rfl) (by kernel_rfl) (by kernel_rfl) (fun _ _ _ h => h) (by rfl) ?_ (by assumption) ?_
              rotate_left 1
              · (intro w hSw; have z1 := (hSw.cell (p := ⟨b8, o8 + t, none⟩) hb8').trans g1; go_simp; (try with_reducible rfl))
              (try simp only [List.setIfInBounds_toArray, List.set_cons_zero, List.set_cons_succ])
              refine take_in (v := ?_) 121 4 rfl rfl (by kernel_rfl) (by kernel_rfl) (by kernel_rfl) (fun _ _ _ h => h) (by rfl) ?_ (by assumption) ?_
              rotate_left 1
              · (intro w hSw; go_simp; (try with_reducible rfl))
              (try simp only [List.setIfInBounds_toArray, List.set_cons_zero, List.set_cons_succ])
              refine take_in (v := ?_) 122 5 rfl rfl (by kernel_rfl) (by kernel_rfl) (by kernel_rfl) (fun _ _ _ h => h) (by rfl) ?_ (by assumption) ?_
              rotate_left 1
              · (intro w hSw; go_simp; (try with_reducible rfl))
              (try simp only [List.setIfInBounds_toArray, List.set_cons_zero, List.set_cons_succ])
              refine take_in (v := ?_) 123 6 rfl rfl (by kernel_rfl) (by kernel_rfl) (by kernel_rfl) (fun _ _ _ h => h) (by rfl) ?_ (by assumption) ?_
              rotate_left 1
              · (intro w hSw; go_simp; (try with_reducible rfl))
              (try simp only [List.setIfInBounds_toArray, List.set_cons_zero, List.set_cons_succ])
              refine take_in (v := ?_) 124 7 rfl rfl (by kernel_rfl) (by kernel_rfl) (by kernel_rfl) (fun _ _ _ h => h) (by rfl) ?_ (by assumption) ?_
              rotate_left 1
              · (intro w hSw; go_simp; (try with_reducible rfl))
              (try simp only [List.setIfInBounds_toArray, List.set_cons_zero, List.set_cons_succ])
              refine take_in (v := ?_) 125 8 rfl rfl (by kernel_rfl) (by kernel_rfl) (by kernel_rfl) (fun _ _ _ h => h) (by rfl) ?_ (by assumption) ?_
              rotate_left 1
              · (intro w hSw; go_simp; (try with_reducible rfl))
              (try simp only [List.setIfInBounds_toArray, List.set_cons_zero, List.set_cons_succ])
              refine take_in (v := ?_) 126 9 rfl rfl (by kernel_rfl) (by kernel_rfl) (by kernel_rfl) (fun _ _ _ h => h) (by rfl) ?_ (by assumption) ?_
              rotate_left 1
              · (intro w hSw; go_simp; (try with_reducible rfl))
              (try simp only [List.setIfInBounds_toArray, List.set_cons_zero, List.set_cons_succ])
              refine take_in (v := ?_) 127 10 rfl rfl (by kernel_rfl) (by kernel_rfl) (by kernel_rfl) (fun _ _ _ h => h) (by rfl) ?_ (by assumption) ?_
              rotate_left 1
              · (intro w hSw; have z1 := (hSw.cell (p := ⟨b8, o8 + t, none⟩) hb8').trans g1; go_simp; (try with_reducible rfl))
              (try simp only [List.setIfInBounds_toArray, List.set_cons_zero, List.set_cons_succ])
              refine take_in (v := ?_) 128 11 rfl rfl (by kernel_rfl) (by kernel_rfl) (by kernel_rfl) (fun _ _ _ h => h) (by rfl) ?_ (by assumption) ?_
              rotate_left 1
              · (intro w hSw; go_simp; (try with_reducible rfl))
              (try simp only [List.setIfInBounds_toArray, List.set_cons_zero, List.set_cons_succ])
              refine take_in (v := ?_) 129 12 rfl rfl (by kernel_rfl) (by kernel_rfl) (by kernel_rfl) (fun _ _ _ h => h) (by rfl) ?_ (by assumption) ?_
              rotate_left 1
              · (intro w hSw; have z2 := (hSw.cell (p := ⟨b9, o9, none⟩) hb9').trans g2; go_simp; (try with_reducible rfl))
              (try simp only [List.setIfInBounds_toArray, List.set_cons_zero, List.set_cons_succ])
              refine take_in (v := ?_) 130 13 rfl rfl (by kernel_rfl) (by kernel_rfl) (by kernel_rfl) (fun _ _ _ h => h) (by rfl) ?_ (by assumption) ?_
              rotate_left 1
              · (intro w hSw; go_simp; (try with_reducible rfl))
              (try simp only [List.setIfInBounds_toArray, List.set_cons_zero, List.set_cons_succ])
              refine take_in (v := ?_) 131 14 rfl rfl (by kernel_rfl) (by kernel_rfl) (by kernel_rfl) (fun _ _ _ h => h) (by rfl) ?_ (by assumption) ?_
              rotate_left 1
              · (intro w hSw; go_simp; (try with_reducible rfl))
              (try simp only [List.setIfInBounds_toArray, List.set_cons_zero, List.set_cons_succ])
              refine take_in (v := ?_) 132 15 rfl rfl (by kernel_rfl) (by kernel_rfl) (by kernel_rfl) (fun _ _ _ h => h) (by rfl) ?_ (by assumption) ?_
              rotate_left 1
              · (intro w hSw; go_simp; (try with_reducible rfl))
              (try simp only [List.setIfInBounds_toArray, List.set_cons_zero, List.set_cons_succ])
              refine take_in (v := ?_) 133 16 rfl rfl (by kernel_rfl) (by kernel_rfl) (by kernel_rfl) (fun _ _ _ h => h) (by rfl) ?_ (by assumption) ?_
              rotate_left 1
              · (intro w hSw; have z3 := (hSw.cell (p := ⟨b6, o6 + t, none⟩) hb6').trans g3; go_simp; (try with_reducible rfl))
              (try simp only [List.setIfInBounds_toArray, List.set_cons_zero, List.set_cons_succ])
              refine take_in (v := ?_) 134 17 rfl rfl (by kernel_rfl) (by kernel_rfl) (by kernel_rfl) (fun _ _ _ h => h) (by rfl) ?_ (by assumption) ?_
              rotate_left 1
              · (intro w hSw; go_simp; (try with_reducible rfl))
              (try simp only [List.setIfInBounds_toArray, List.set_cons_zero, List.set_cons_succ])
              refine take_in (v := ?_) 135 18 rfl rfl (by kernel_rfl) (by kernel_rfl) (by kernel_rfl) (fun _ _ _ h => h) (by rfl) ?_ (by assumption) ?_
              rotate_left 1
              · (intro w hSw; go_simp; (try with_reducible rfl))
              (try simp only [List.setIfInBounds_toArray, List.set_cons_zero, List.set_cons_succ])
              refine take_in (v := ?_) 136 19 rfl rfl (by kernel_rfl) (by kernel_rfl) (by kernel_rfl) (fun _ _ _ h => h) (by rfl) ?_ (by assumption) ?_
              rotate_left 1
              · (intro w hSw; have z4 := (hSw.cell (p := ⟨b5, o5 + q, none⟩) hb5').trans g5; go_simp; (try with_reducible rfl))
              (try simp only [List.setIfInBounds_toArray, List.set_cons_zero, List.set_cons_succ])
              refine take_in (v := ?_) 137 20 rfl rfl (by kernel_rfl) (by kernel_rfl) (by kernel_rfl) (fun _ _ _ h => h) (by rfl) ?_ (by assumption) ?_
              rotate_left 1
              · (intro w hSw; go_simp; (try with_reducible rfl))
              (try simp only [List.setIfInBounds_toArray, List.set_cons_zero, List.set_cons_succ])
              refine take_in (v := ?_) 138 21 rfl rfl (by kernel_rfl) (by kernel_rfl) (by kernel_rfl) (fun _ _ _ h => h) (by rfl) ?_ (by assumption) ?_
              rotate_left 1
              · (intro w hSw; go_simp; (try with_reducible rfl))
              (try simp only [List.setIfInBounds_toArray, List.set_cons_zero, List.set_cons_succ])
              refine wpAnyH_done (by kernel_rfl) ?_ _
              go_wp2_with fail
              go_roundw
              case rel => exact ⟨t + 1, by omega, by go_num, HBZ.out.trans (hHeld.mono HBZ.out.size)⟩
              case measure => simp only [intOf]; omega
            · obtain rfl : t = m := by omega
              have y3 := (SH.out.below (by omega) HBZ.out).m
              go_wp2_with fail
              go_ret
              exact ⟨rfl, bstep HB.out (Nat.le_refl _) HBZ.out⟩
end Go.Proofs.Ythejbmjleohlfaa
