/- The walk of the statement DecodeNames: the examples, the limits. -/
import Derived.Test.YtbahelhhkmonmaaDa
import Derived.Test.YtbahelhhkmonmaaPc
import Derived.Test.YtbahelhhkmonmaaTk
namespace Go.Proofs.Ytbahelhhkmonmaa
open Go.RowKit Go.Shelf

/-- make([]uint16, n), as one operation. -/
theorem wpO_mk {o : Oper} {a : Act} {K : Act → World → Prop} {Q : Exit → Act → World → Prop} (w : World) (l c : Operand) (hop : o.op = Op.makeSlice 22 l c)
    (B : Nat) (L C : Int) (n : Nat) (hl : a.eval l = .int .i64 L) (hc : a.eval c = .int .i64 C) (hL : L = (n : Int)) (hC : C = (n : Int)) (b2 : n ≤ 100000000) (b4 : B ≤ w.heap.size)
    (hK : ∀ w', Own w' B (some ⟨w.heap.size, 0, none⟩) n n (List.replicate n 0) → w.grownBy w' none → K (a.put o.dst (.slice (some ⟨w.heap.size, 0, none⟩) n n)) w') :
    Oper.wp Try.prog o a w K Q := by
  obtain ⟨i0, hi0, hz0, hz1, hz2⟩ := info_parts u16_info
  obtain ⟨w', hrun, r1, r2⟩ := run_make_full (P := Try.prog) w B 22 29 i0 (.int .u16 0) 1 Try.underlying22 hi0 hz0 hz1 .i64 .i64 n (by rw [hz2]; omega) (by unfold maxLen; omega) b4
  subst hL
  subst hC
  unfold Oper.wp
  simp [execOp, hop, hl, hc, hrun, Result.andThen]
  exact hK _ (Own.of_made r1) r2
theorem dn_may0 : mayB 0 0 ([] : List Int) = false := by rw [Bool.eq_false_iff]; exact fun h => absurd (mayB_iff.1 h) (by decide)
theorem dn_may1 : mayB 256 1 ([] : List Int) = false := by rw [Bool.eq_false_iff]; exact fun h => absurd (mayB_iff.1 h) (by decide)
theorem dn_may2 : mayB 3 (-1) ([] : List Int) = false := by rw [Bool.eq_false_iff]; exact fun h => absurd (mayB_iff.1 h) (by decide)
theorem dn_may3 : mayB 3 4 ([] : List Int) = false := by rw [Bool.eq_false_iff]; exact fun h => absurd (mayB_iff.1 h) (by decide)
theorem dn_may4 : mayB 3 1 ([3] : List Int) = false := by rw [Bool.eq_false_iff]; exact fun h => absurd (mayB_iff.1 h) (by decide)
theorem dn_may5 : mayB 3 1 ([-1] : List Int) = false := by rw [Bool.eq_false_iff]; exact fun h => absurd (mayB_iff.1 h) (by decide)
theorem dn_may6 : mayB 3 2 ([1, 1] : List Int) = false := by rw [Bool.eq_false_iff]; exact fun h => absurd (mayB_iff.1 h) (by decide)

/-- A row of the table of what is refused. -/
structure DnRow (W : World) (G k n : Nat) (r : Int) (A : Option Addr) (ng cg : Nat) (zs : List Int) : Prop where
  c0 : W.cell? ⟨G, k * 3, none⟩ = some (.int .i64 n)
  c1 : W.cell? ⟨G, k * 3 + 1, none⟩ = some (.int .i64 r)
  c2 : W.cell? ⟨G, k * 3 + 2, none⟩ = some (.slice A ng cg)
  len : zs.length = ng
  small : ng ≤ 10
  smalln : n ≤ 1000
  rd : RdI W W.heap.size A zs
  bad : mayB n r zs = false
theorem dn_rows (w : World) : ∀ W G, W = (((w.alloc (.cells #[.int .i64 3] 3)).alloc (.cells #[.int .i64 (-1)] 3)).alloc (.cells #[.int .i64 1, .int .i64 1] 3)).alloc (.cells #[.int .i64 0, .int .i64 0, .slice none 0 0, .int .i64 256, .int .i64 1, .slice none 0 0, .int .i64 3, .int .i64 (-1), .slice none 0 0, .int .i64 3, .int .i64 4, .slice none 0 0,
    .int .i64 3, .int .i64 1, .slice (some ⟨w.heap.size, 0, none⟩) 1 1, .int .i64 3, .int .i64 1, .slice (some ⟨w.heap.size + 1, 0, none⟩) 1 1, .int .i64 3, .int .i64 2, .slice (some ⟨w.heap.size + 1 + 1, 0, none⟩) 2 2] 32) → G = w.heap.size + 1 + 1 + 1 →
    ∀ k, k < 7 → ∃ n r A ng cg zs, DnRow W G k n r A ng cg zs := by
  rintro W G rfl rfl k hk
  have hr1 := (((lit_i w [3] #[.int .i64 3] _ rfl (by decide) rfl).below (balloc _ (.cells #[.int .i64 (-1)] 3))).more (balloc _ (.cells #[.int .i64 (-1)] 3)).size).below (balloc _ (.cells #[.int .i64 1, .int .i64 1] 3)) |>.more (balloc _ (.cells #[.int .i64 1, .int .i64 1] 3)).size
  have hr2 := ((lit_i (w.alloc (.cells #[.int .i64 3] 3)) [-1] #[.int .i64 (-1)] (w.heap.size + 1) (by simp) (by decide) rfl).below (balloc _ (.cells #[.int .i64 1, .int .i64 1] 3))).more (balloc _ (.cells #[.int .i64 1, .int .i64 1] 3)).size
  have hr3 := lit_i ((w.alloc (.cells #[.int .i64 3] 3)).alloc (.cells #[.int .i64 (-1)] 3)) [1, 1] #[.int .i64 1, .int .i64 1] (w.heap.size + 1 + 1) (by simp) (by decide) rfl
  match k, hk with
  | 0, _ => exact ⟨0, 0, none, 0, 0, [], by go_cell, by go_cell, by go_cell, rfl, by omega, by omega, RdI.nil, dn_may0⟩
  | 1, _ => exact ⟨256, 1, none, 0, 0, [], by go_cell, by go_cell, by go_cell, rfl, by omega, by omega, RdI.nil, dn_may1⟩
  | 2, _ => exact ⟨3, -1, none, 0, 0, [], by go_cell, by go_cell, by go_cell, rfl, by omega, by omega, RdI.nil, dn_may2⟩
  | 3, _ => exact ⟨3, 4, none, 0, 0, [], by go_cell, by go_cell, by go_cell, rfl, by omega, by omega, RdI.nil, dn_may3⟩
  | 4, _ => exact ⟨3, 1, _, 1, 1, [3], by go_cell, by go_cell, by go_cell, rfl, by omega, by omega, (hr1.below (balloc _ _)).more (balloc _ _).size, dn_may4⟩
  | 5, _ => exact ⟨3, 1, _, 1, 1, [-1], by go_cell, by go_cell, by go_cell, rfl, by omega, by omega, (hr2.below (balloc _ _)).more (balloc _ _).size, dn_may5⟩
  | 6, _ => exact ⟨3, 2, _, 2, 2, [1, 1], by go_cell, by go_cell, by go_cell, rfl, by omega, by omega, (hr3.below (balloc _ _)).more (balloc _ _).size, dn_may6⟩

theorem unl_self (gs : List Nat) (l : List F) (n : Nat) : unl gs l l n = 0 := by
  unfold unl
  rw [List.length_eq_zero_iff, List.filter_eq_nil_iff]
  intro i _ h
  simp at h
theorem dec_self {n r : Nat} {gs : List Nat} {l : List F} (hl : l.length = n) (hr : Nought l r) (hg : gs.length ≤ r) : Dec n r gs l l := ⟨hl, hr, by rw [unl_self]; omega⟩
theorem nought_zeros (n r : Nat) : Nought (List.replicate n 0) r := fun _ _ => hv_zeros n _
theorem dn_ma : mayB 255 255 ([] : List Int) = true := mayB_iff.2 (by decide)
theorem dn_mb : mayB 2 0 ([] : List Int) = true := mayB_iff.2 (by decide)
theorem dn_mc : mayB 2 0 [1] = true := mayB_iff.2 (by decide)
theorem dn_md : mayB 3 3 [0, 1, 2] = true := mayB_iff.2 (by decide)
def dnL : List F := [F.ofNat 5, F.ofNat 6]
def dnM : List F := [F.ofNat 5, F.ofNat 6, F.ofNat 7]
theorem dn_da : Dec 255 255 [] (List.replicate 255 0) (List.replicate 255 0) := dec_self List.length_replicate (nought_zeros _ _) (by simp)
theorem dn_db : Dec 2 0 [] dnL dnL := dec_self rfl (fun _ h => absurd h (by omega)) (by simp)
theorem dn_dd : Dec 3 3 [0, 1, 2] dnM [0, 0, 0] := ⟨rfl, nought_zeros 3 3, by
  have : unl [0, 1, 2] [0, 0, 0] dnM 3 = 0 := by decide +kernel
  rw [this]
  decide⟩

set_option maxRecDepth 100000 in
set_option maxHeartbeats 4000000 in
theorem names_walk (w : World) : Calls Try.prog 4 #[] w fun e w' => e = .returned (.bool true) ∧ Below w.heap.size w w' := by
  have HR := Lib.hid (dn_rows w _ _ rfl rfl)
  go_enter Try.func4, Try.ntmps4
  go_wp2_with fail
  have hB0 := ((((balloc w (.cells #[.int .i64 3] 3)).alloc (by simp) (.cells #[.int .i64 (-1)] 3)).alloc (by simp; omega) (.cells #[.int .i64 1, .int .i64 1] 3)).alloc (by simp; omega) (.cells #[.int .i64 0, .int .i64 0, .slice none 0 0, .int .i64 256, .int .i64 1, .slice none 0 0, .int .i64 3, .int .i64 (-1), .slice none 0 0, .int .i64 3, .int .i64 4, .slice none 0 0,
    .int .i64 3, .int .i64 1, .slice (some ⟨w.heap.size, 0, none⟩) 1 1, .int .i64 3, .int .i64 1, .slice (some ⟨w.heap.size + 1, 0, none⟩) 1 1, .int .i64 3, .int .i64 2, .slice (some ⟨w.heap.size + 1 + 1, 0, none⟩) 2 2] 32))
  obtain ⟨W, hW⟩ : ∃ W, W = (((w.alloc (.cells #[.int .i64 3] 3)).alloc (.cells #[.int .i64 (-1)] 3)).alloc (.cells #[.int .i64 1, .int .i64 1] 3)).alloc (.cells #[.int .i64 0, .int .i64 0, .slice none 0 0, .int .i64 256, .int .i64 1, .slice none 0 0, .int .i64 3, .int .i64 (-1), .slice none 0 0, .int .i64 3, .int .i64 4, .slice none 0 0,
    .int .i64 3, .int .i64 1, .slice (some ⟨w.heap.size, 0, none⟩) 1 1, .int .i64 3, .int .i64 1, .slice (some ⟨w.heap.size + 1, 0, none⟩) 1 1, .int .i64 3, .int .i64 2, .slice (some ⟨w.heap.size + 1 + 1, 0, none⟩) 2 2] 32) := ⟨_, rfl⟩
  rw [← hW] at hB0 HR
  simp only [← hW]
  have HB0 := Lib.hid hB0
  have hG : w.heap.size + 1 + 1 + 1 < W.heap.size := by rw [hW]; simp
  obtain ⟨G, hGe⟩ : ∃ G, G = w.heap.size + 1 + 1 + 1 := ⟨_, rfl⟩
  rw [← hGe] at HR hG ⊢
  clear hB0 hW hGe
  go_loopw [25] (fun i wr => ∃ k : Nat, k ≤ 7 ∧ i = .int .i64 k ∧ Below W.heap.size W wr) (fun i _ => 7 - (intOf i).toNat)
  case atStart => exact ⟨0, by omega, rfl, Below.refl _ _⟩
  case round =>
    obtain ⟨k, hk, rfl, hbel⟩ := hrel
    have HB := Lib.hid hbel
    by_cases hk7 : k < 7
    · obtain ⟨n, r, A, ng, cg, zs, hrow⟩ := HR.out k hk7
      have HROW := Lib.hid hrow
      have d0 := (hbel.cell (p := ⟨G, k * 3, none⟩) hG).trans hrow.c0
      have d1 := (hbel.cell (p := ⟨G, k * 3 + 1, none⟩) hG).trans hrow.c1
      have d2 := (hbel.cell (p := ⟨G, k * 3 + 2, none⟩) hG).trans hrow.c2
      clear hrow hbel
      go_wp2_with fail
      have WX := Lib.hid (balloc wr (.cells #[.int .i64 n, .int .i64 r, .slice A ng cg] 32))
      have e0 : (wr.alloc (.cells #[.int .i64 n, .int .i64 r, .slice A ng cg] 32)).cell? ⟨wr.heap.size, 0, none⟩ = some (.int .i64 n) := by go_cell
      have e1 : (wr.alloc (.cells #[.int .i64 n, .int .i64 r, .slice A ng cg] 32)).cell? ⟨wr.heap.size, 1, none⟩ = some (.int .i64 r) := by go_cell
      have e2 : (wr.alloc (.cells #[.int .i64 n, .int .i64 r, .slice A ng cg] 32)).cell? ⟨wr.heap.size, 2, none⟩ = some (.slice A ng cg) := by go_cell
      obtain ⟨wx, hwx⟩ : ∃ wx, wx = wr.alloc (.cells #[.int .i64 n, .int .i64 r, .slice A ng cg] 32) := ⟨_, rfl⟩
      have hlt : wr.heap.size < wx.heap.size := by rw [hwx]; simp
      rw [← hwx] at WX e0 e1 e2
      simp only [← hwx]
      have RI := Lib.hid (((HROW.out.rd.below HB.out).more HB.out.size).below WX.out |>.more WX.out.size)
      have HBX := Lib.hid (bstep HB.out (Nat.le_refl _) WX.out)
      obtain ⟨B, hBe⟩ : ∃ B, B = wr.heap.size := ⟨_, rfl⟩
      rw [← hBe] at e0 e1 e2 hlt ⊢
      have hn1000 := HROW.out.smalln
      have hng := HROW.out.small
      clear hwx hBe WX HB d0 d1 d2
      refine wp_region_held_drew (S := fun w' => Below wx.heap.size wx w') (by kernel_rfl) (Below.refl _ _).drew (fun hHeld => ?_)
      refine take_in (v := ?_) 30 0 rfl rfl (by kernel_rfl) (by kernel_rfl) (by kernel_rfl) (fun _ _ _ h => h) (by rfl) ?_ (by assumption) ?_
      rotate_left 1
      · (intro w hSw; go_simp; (try with_reducible rfl))
      (try simp only [List.setIfInBounds_toArray, List.set_cons_zero, List.set_cons_succ])
      refine take_in (v := ?_) 31 1 rfl rfl (by kernel_rfl) (by kernel_rfl) (by kernel_rfl) (fun _ _ _ h => h) (by rfl) ?_ (by assumption) ?_
      rotate_left 1
      · (intro w hSw; have z0 := (Below.cell hSw (p := ⟨B, 0, none⟩) hlt).trans e0; have z1 := (Below.cell hSw (p := ⟨B, 1, none⟩) hlt).trans e1; have z2 := (Below.cell hSw (p := ⟨B, 2, none⟩) hlt).trans e2; go_simp; (try with_reducible rfl))
      (try simp only [List.setIfInBounds_toArray, List.set_cons_zero, List.set_cons_succ])
      refine take_in (v := ?_) 33 3 rfl rfl (by kernel_rfl) (by kernel_rfl) (by kernel_rfl) (fun _ _ _ h => h) (by rfl) ?_ (by assumption) ?_
      rotate_left 1
      · (intro w hSw; go_simp; (try with_reducible rfl))
      (try simp only [List.setIfInBounds_toArray, List.set_cons_zero, List.set_cons_succ])
      refine take_in (v := ?_) 34 4 rfl rfl (by kernel_rfl) (by kernel_rfl) (by kernel_rfl) (fun _ _ _ h => h) (by rfl) ?_ (by assumption) ?_
      rotate_left 1
      · (intro w hSw; have z0 := (Below.cell hSw (p := ⟨B, 0, none⟩) hlt).trans e0; have z1 := (Below.cell hSw (p := ⟨B, 1, none⟩) hlt).trans e1; have z2 := (Below.cell hSw (p := ⟨B, 2, none⟩) hlt).trans e2; go_simp; (try with_reducible rfl))
      (try simp only [List.setIfInBounds_toArray, List.set_cons_zero, List.set_cons_succ])
      refine take_in (v := ?_) 35 5 rfl rfl (by kernel_rfl) (by kernel_rfl) (by kernel_rfl) (fun _ _ _ h => h) (by rfl) ?_ (by assumption) ?_
      rotate_left 1
      · (intro w hSw; go_simp; (try with_reducible rfl))
      (try simp only [List.setIfInBounds_toArray, List.set_cons_zero, List.set_cons_succ])
      refine take_in (v := ?_) 36 6 rfl rfl (by kernel_rfl) (by kernel_rfl) (by kernel_rfl) (fun _ _ _ h => h) (by rfl) ?_ (by assumption) ?_
      rotate_left 1
      · (intro w hSw; have z0 := (Below.cell hSw (p := ⟨B, 0, none⟩) hlt).trans e0; have z1 := (Below.cell hSw (p := ⟨B, 1, none⟩) hlt).trans e1; have z2 := (Below.cell hSw (p := ⟨B, 2, none⟩) hlt).trans e2; go_simp; (try with_reducible rfl))
      (try simp only [List.setIfInBounds_toArray, List.set_cons_zero, List.set_cons_succ])
      refine wpAnyH_ready (rs := [2]) (by kernel_rfl) (by simp) ?_
      refine AllReadyH.cons rfl (fun K hK => ?_) AllReadyH.nil
      rw [if_pos (by rfl)]
      refine wpO_mk _ _ _ rfl wx.heap.size _ _ n rfl rfl rfl rfl (by omega) hHeld.size ?_
      intro w1 hown1 hg1
      refine hK.out _ _ (hHeld.grown hg1 hHeld.size (by simp)) (fun hHeld => ?_)
      clear hK K
      (try simp only [List.setIfInBounds_toArray, List.set_cons_zero, List.set_cons_succ])
      refine wpAnyH_ready (rs := [7]) (by kernel_rfl) (by simp) ?_
      refine AllReadyH.cons rfl (fun K hK => ?_) AllReadyH.nil
      go_simp
      refine (word_bad _ A n n ng cg r zs _ HROW.out.len (by omega) (by exact (RI.out.below hHeld).more hHeld.size) (by omega) HROW.out.bad).mono ?_
      rintro e w2 ⟨rfl, hb2⟩
      go_wp2_with fail
      refine hK.out _ _ (bstep hHeld (Nat.le_refl _) hb2) (fun hHeld => ?_)
      clear hK K
      (try simp only [List.setIfInBounds_toArray, List.set_cons_zero, List.set_cons_succ])
      refine take_in (v := ?_) 29 8 rfl rfl (by kernel_rfl) (by kernel_rfl) (by kernel_rfl) (fun _ _ _ h => h) (by rfl) ?_ (by assumption) ?_
      rotate_left 1
      · (intro w hSw; go_simp; (try with_reducible rfl))
      (try simp only [List.setIfInBounds_toArray, List.set_cons_zero, List.set_cons_succ])
      refine take_in (v := ?_) 38 9 rfl rfl (by kernel_rfl) (by kernel_rfl) (by kernel_rfl) (fun _ _ _ h => h) (by rfl) ?_ (by assumption) ?_
      rotate_left 1
      · (intro w hSw; go_simp; (try with_reducible rfl))
      (try simp only [List.setIfInBounds_toArray, List.set_cons_zero, List.set_cons_succ])
      refine take_in (v := ?_) 39 10 rfl rfl (by kernel_rfl) (by kernel_rfl) (by kernel_rfl) (fun _ _ _ h => h) (by rfl) ?_ (by assumption) ?_
      rotate_left 1
      · (intro w hSw; go_simp; (try with_reducible rfl))
      (try simp only [List.setIfInBounds_toArray, List.set_cons_zero, List.set_cons_succ])
      refine take_in (v := ?_) 3 11 rfl rfl (by kernel_rfl) (by kernel_rfl) (by kernel_rfl) (fun _ _ _ h => h) (by rfl) ?_ (by assumption) ?_
      rotate_left 1
      · (intro w hSw; go_simp; (try with_reducible rfl))
      (try simp only [List.setIfInBounds_toArray, List.set_cons_zero, List.set_cons_succ])
      refine take_in (v := ?_) 4 12 rfl rfl (by kernel_rfl) (by kernel_rfl) (by kernel_rfl) (fun _ _ _ h => h) (by rfl) ?_ (by assumption) ?_
      rotate_left 1
      · (intro w hSw; go_simp; (try with_reducible rfl))
      (try simp only [List.setIfInBounds_toArray, List.set_cons_zero, List.set_cons_succ])
      refine wpAnyH_done (by kernel_rfl) ?_ _
      go_wp2_with fail
      go_roundw
      case rel => exact ⟨k + 1, by omega, by go_num, bstep HBX.out (Nat.le_refl _) hHeld⟩
      case measure => simp only [intOf]; omega
    · obtain rfl : k = 7 := by omega
      have H0 := Lib.hid (bstep HB0.out (Nat.le_refl _) HB.out)
      clear HB HB0 hbel HR
      go_wp2_with (at_make; refine wpList_mk _ rfl _ _ rfl wr.heap.size _ _ 255 rfl rfl rfl rfl (by omega) (Nat.le_refl _) ?_; intro w3 hown3 hg3)
      have hb3 := (Below.refl wr.heap.size wr).grown hg3 (Nat.le_refl _) (by simp)
      have B3 := Lib.hid (bstep H0.out (Nat.le_refl _) hb3)
      have O3 := Lib.hid hown3
      clear hown3 hg3 hb3 H0
      refine (word_in (some ⟨wr.heap.size, 0, none⟩) none 255 255 0 0 255 (List.replicate 255 0) [] _ List.length_replicate (by exact O3.out.rd) rfl RdI.nil (by omega) (by omega) (by omega) dn_ma (by omega) List.nodup_nil (by simp)).mono ?_
      rintro e w4 hret
      obtain ⟨A4, c4, rfl, ho4, hb4⟩ := hret.ok (by omega) dn_da
      have B4 := Lib.hid (bstep B3.out (Nat.le_refl _) hb4)
      clear hret ho4 hb4 B3 O3
      go_wp2_with fail
      refine (word_in _ none 2 2 0 0 0 dnL [] _ rfl (by exact lit_at _ _ _ _ (by simp) (by decide) rfl) rfl RdI.nil (by omega) (by omega) (by omega) dn_mb (by omega) List.nodup_nil (by simp)).mono ?_
      rintro e w5 hret
      obtain ⟨A5, c5, rfl, ho5, hb5⟩ := hret.ok (by omega) dn_db
      have B5 := Lib.hid (bstep (B4.out.alloc B4.out.size _) (Nat.le_refl _) hb5)
      have O5 := Lib.hid ho5
      clear hret ho5 hb5 B4
      go_wp2_with fail
      refine (word_lost _ _ 2 2 1 1 0 [1] _ rfl (by omega) (by exact lit_i _ _ _ _ (by simp) (by decide) rfl) (by omega) dn_mc (by omega)).mono ?_
      rintro e w6 ⟨rfl, hb6⟩
      have O6 := Lib.hid (((O5.out.alloc (.cells #[.int .u16 5, .int .u16 6] 29)).alloc (.cells #[.int .i64 1] 3)).below hb6)
      have B6 := Lib.hid (bstep ((B5.out.alloc B5.out.size (.cells #[.int .u16 5, .int .u16 6] 29)).alloc (by have := B5.out.size; simp; omega) (.cells #[.int .i64 1] 3)) (Nat.le_refl _) hb6)
      clear hb6 O5 B5
      go_wp2_with fail
      refine (word_in _ _ 3 3 3 3 3 dnM [0, 1, 2] _ rfl (by exact (lit_at _ _ _ _ (by simp) (by decide) rfl).below (balloc _ _) |>.more (balloc _ _).size) rfl (by exact lit_i _ _ _ _ (by simp) (by decide) rfl) (by omega) (by omega) (by omega) dn_md (by omega) (by decide) (by decide)).mono ?_
      rintro e w7 hret
      obtain ⟨A7, c7, rfl, ho7, hb7⟩ := hret.ok (by omega) dn_dd
      have O67 := Lib.hid (((O6.out.alloc (.cells #[.int .u16 5, .int .u16 6, .int .u16 7] 29)).alloc (.cells #[.int .i64 0, .int .i64 1, .int .i64 2] 3)).below hb7)
      have B7 := Lib.hid (bstep ((B6.out.alloc B6.out.size (.cells #[.int .u16 5, .int .u16 6, .int .u16 7] 29)).alloc (by have := B6.out.size; simp; omega) (.cells #[.int .i64 0, .int .i64 1, .int .i64 2] 3)) (Nat.le_refl _) hb7)
      have O7 := Lib.hid ho7
      clear hret ho7 hb7 O6 B6
      obtain ⟨g5, rfl, _, _⟩ := O67.out.form (by omega)
      have x0 := O67.out.cell (j := 0) (by omega)
      have x1 := O67.out.cell (j := 1) (by omega)
      rw [show ((dnL.getD 0 0).nat : Int) = 5 from by decide] at x0
      rw [show ((dnL.getD 1 0).nat : Int) = 6 from by decide] at x1
      clear O67
      go_wp2_with fail
      refine (same_any A7 _ 3 c7 3 3 _ _ [0, 0, 0] [0, 0, 0] _ rfl rfl (by exact (O7.out.alloc _).rd) (by exact lit_at _ _ _ _ (by simp) (by decide) rfl) (by simp) (Nat.le_refl _) (by decide)).mono ?_
      rintro e w8 ⟨rfl, hb8⟩
      rw [show decide (([0, 0, 0] : List F) = [0, 0, 0]) = true from decide_eq_true rfl]
      have B8 := Lib.hid (bstep (B7.out.alloc B7.out.size _) (Nat.le_refl _) hb8)
      clear hb8 O7 B7
      go_wp2_with fail
      refine (most_any 4 1 _ (by decide)).mono ?_
      rintro e wz ⟨rfl, rfl⟩
      rw [show mostZ 4 1 = 1 from by decide]
      go_wp2_with fail
      refine (most_any 4 4 _ (by decide)).mono ?_
      rintro e wz ⟨rfl, rfl⟩
      rw [show mostZ 4 4 = 0 from by decide]
      go_wp2_with fail
      refine (most_any 4 5 _ (by decide)).mono ?_
      rintro e wz ⟨rfl, rfl⟩
      rw [show mostZ 4 5 = -1 from by decide]
      go_wp2_with fail
      refine (most_any 0 0 _ (by decide)).mono ?_
      rintro e wz ⟨rfl, rfl⟩
      rw [show mostZ 0 0 = 0 from by decide]
      go_wp2_with fail
      refine (awake_any _).mono ?_
      rintro e w9 ⟨rfl, hb9⟩
      have B9 := Lib.hid (bstep B8.out (Nat.le_refl _) hb9)
      clear hb9 B8
      go_wp2_with fail
      go_ret
      exact ⟨rfl, B9.out⟩
end Go.Proofs.Ytbahelhhkmonmaa
