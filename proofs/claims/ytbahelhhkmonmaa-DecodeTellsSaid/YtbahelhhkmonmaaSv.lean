/- The walk of the document's way to solve equations. -/
import Derived.Test.YtbahelhhkmonmaaMt
import Derived.RegionTactic
import Derived.ChangeAlike
import Derived.Test.YtbahelhhkmonmaaRw
namespace Go.Proofs.Ytbahelhhkmonmaa
open Go.RowKit

def RetSolve (B : Nat) (w : World) (R n : Nat) (f : Nat → Nat → F) (e : Ending) (w' : World) : Prop :=
  (∃ (A : Option Addr) (c : Nat) (x : Nat → F), e = .returned (.tuple #[.slice A n c, .bool true]) ∧ Own w' w.heap.size A n c (tab n x) ∧ Sol R n f x ∧ Below B w w') ∨
  (e = .returned (.tuple #[.slice none 0 0, .bool false]) ∧ (∀ x, Sol R n f x → ∃ y, Sol R n f y ∧ ∃ k, k < n ∧ y k ≠ x k) ∧ Below B w w')
/-- In the midst of solving. -/
structure SolMid (R n c : Nat) (f f' : Nat → Nat → F) : Prop where
  unit : Unit R c f'
  same : ∀ x, Sol R n f' x ↔ Sol R n f x
theorem SolMid.step {R n c a : Nat} {f f' : Nat → Nat → F} (h : SolMid R n c f f') (hca : c ≤ a) (ha : a < R) (hp : f' a c ≠ 0) : SolMid R n (c + 1) f (stepF f' a c) :=
  ⟨unit_step h.unit hca ha hp, fun x => (sol_step (by omega) ha hp).trans (h.same x)⟩
theorem SolMid.stuck {R n c : Nat} {f f' : Nat → Nat → F} (h : SolMid R n c f f') (hcn : c < n) (hz : ∀ i, c ≤ i → i < R → f' i c = 0) : ∀ x, Sol R n f x → ∃ y, Sol R n f y ∧ ∃ k, k < n ∧ y k ≠ x k := fun x hx => by
  obtain ⟨y, hy, hk⟩ := sol_not_one h.unit hcn hz ((h.same x).2 hx)
  exact ⟨y, (h.same y).1 hy, hk⟩

theorem Own.less' {w : World} {B B' n c : Nat} {A : Option Addr} {l : List F} (h : Own w B A n c l) (hB : B' ≤ B) : Own w B' A n c l := Own.ofV (h.toV.less hB)

set_option maxRecDepth 100000 in
set_option maxHeartbeats 8000000 in
theorem solve_any (A : Option Addr) (cg R n B : Nat) (h : Nat → Nat × Nat) (f : Nat → Nat → F) (w : World) (hm : Mat w B A cg R n h f) (hR : 0 < R) (hR2 : R ≤ 1000) (hn : n ≤ 1000) (hB : B ≤ w.heap.size) :
    Calls Try.prog 27 #[.slice A R cg, .int .i64 n] w (RetSolve B w R n f) := by
  obtain ⟨g, rfl, hgB, hglt⟩ := hm.form hR
  have HM := Lib.hid hm
  clear hm
  go_enter Try.func27, Try.ntmps27
  go_wp2_with fail
  go_loopw [6, 7] (fun d v wr => ∃ (c : Nat) (h' : Nat → Nat × Nat) (f' : Nat → Nat → F), c ≤ n ∧ c ≤ R ∧ d = .int .i64 c ∧ v = .int .i64 c ∧ Mat wr B (some ⟨g, 0, none⟩) cg R n h' f' ∧ SolMid R n c f f' ∧ Below B w wr) (fun d _ _ => n - (intOf d).toNat)
  case atStart => exact ⟨0, h, f, by omega, by omega, rfl, rfl, HM.out, ⟨unit_start R f, fun _ => Iff.rfl⟩, Below.refl _ _⟩
  case round =>
    obtain ⟨c, h', f', hc, hcR, rfl, rfl, hmat, hmid, hbel⟩ := hrel
    have HMT := Lib.hid hmat
    have HMD := Lib.hid hmid
    have HB := Lib.hid hbel
    clear hmat hmid hbel HM
    obtain ⟨wo, rfl⟩ : ∃ wo, wo = wr := ⟨_, rfl⟩
    by_cases hcn : c < n
    · go_wp2_with fail
      go_loop [8] (fun v => ∃ a : Nat, c ≤ a ∧ a ≤ R ∧ v = .int .i64 a ∧ Hid (∀ i, c ≤ i → i < a → f' i c = 0)) (fun v => R - (intOf v).toNat)
      case atStart => exact ⟨c, Nat.le_refl _, hcR, rfl, fun i h1 h2 => by omega⟩
      case round =>
        obtain ⟨a, hca, haR, rfl, HZ⟩ := hrel
        by_cases haR2 : a < R
        · have e1 := HMT.out.head haR2
          have e2 := HMT.out.cell haR2 (k := c) (by omega)
          by_cases hp : f' a c = 0
          · have t1 := feq0 hp
            have HZ2 := Lib.hid (show ∀ i, c ≤ i → i < a + 1 → f' i c = 0 from fun i h1 h2 => by
              rcases Nat.lt_or_ge i a with h3 | h3
              · exact HZ.out i h1 h3
              · obtain rfl : i = a := by omega
                exact hp)
            clear hp
            generalize f' a c = x at e2 t1
            go_wp2_with fail
            go_round
            case rel => exact ⟨a + 1, by omega, by omega, by go_num, HZ2⟩
            case measure => simp only [intOf]; omega
          · have t1 := feq0' hp
            have HP := Lib.hid hp
            clear hp
            generalize hx : f' a c = x at e2 t1
            have HXE := Lib.hid hx
            clear hx
            have eC := HMT.out.head (show c < R by omega)
            have fA := HMT.out.hfrozen a
            have fC := HMT.out.hfrozen c
            have q1 : (0 : Int) ≤ (c : Int) := by omega
            have q2 : (c : Int) < (R : Int) := by omega
            have q3 : (0 : Int) ≤ (a : Int) := by omega
            have q4 : (a : Int) < (R : Int) := by omega
            have SW := Lib.hid (HMT.out.swap (a := a) (b := c) haR2 (by omega))
            have SD := Lib.hid (HMD.out.step hca haR2 HP.out)
            have SX := Lib.hid (show swapF f' a c c c = x by rw [swap_here, HXE.out])
            have hca' : c < R := by omega
            have fz2 : (wo.setCell ⟨g, a, none⟩ (.slice (some ⟨(h' c).1, 0, none⟩) (n + 1) (h' c).2)).frozen? ⟨g, c, none⟩ = false := (HMT.out.top.store a (rowV n h' c)).frozen c
            have ex2 : (wo.setCell ⟨g, a, none⟩ (.slice (some ⟨(h' c).1, 0, none⟩) (n + 1) (h' c).2)).cell? ⟨g, c, none⟩ = some (.slice (some ⟨(h' c).1, 0, none⟩) (n + 1) (h' c).2) := (HMT.out.top.store a (rowV n h' c)).cell (range_set_same (rowV n h') hca')
            go_wp2_with fail
            go_region
            have k1 := SW.out.head hca'
            rw [swapH_here] at k1
            have k2 := SW.out.cell hca' (k := c) (by omega)
            rw [swapH_here, SX.out] at k2
            go_wp2_with fail
            have SM := Lib.hid (SW.out.drew)
            have SB := Lib.hid (((HB.out.setCell (p := ⟨g, a, none⟩) hgB (.slice (some ⟨(h' c).1, 0, none⟩) (n + 1) (h' c).2)).setCell (p := ⟨g, c, none⟩) hgB (.slice (some ⟨(h' a).1, 0, none⟩) (n + 1) (h' a).2)).drew)
            obtain ⟨w2, hw2⟩ : ∃ w2, w2 = ((wo.setCell ⟨g, a, none⟩ (.slice (some ⟨(h' c).1, 0, none⟩) (n + 1) (h' c).2)).setCell ⟨g, c, none⟩ (.slice (some ⟨(h' a).1, 0, none⟩) (n + 1) (h' a).2)).drew := ⟨_, rfl⟩
            rw [← hw2] at SM SB
            simp only [← hw2]
            have SX2 := Lib.hid (show F.inv (f' a c) = F.inv x by rw [HXE.out])
            clear hw2 SW k1 k2 ex2 fz2 e1 e2 eC fA fC HMT HB HZ q3 q4
            generalize swapH h' a c = h2 at SM
            obtain ⟨f2, hf2⟩ : ∃ f2, f2 = swapF f' a c := ⟨_, rfl⟩
            have SF := Lib.hid (show stepF f' a c = elimF (scaleF f2 c (F.inv x)) c by rw [stepF, ← hf2, HXE.out])
            rw [← hf2] at SM SX
            clear hf2 SX2
            refine (rinv_any _ x _ rfl).mono ?_
            rintro e w3 ⟨rfl, rfl⟩
            generalize F.inv x = v at SF ⊢
            go_wp2_with fail
            go_loopw [11] (fun k wr => ∃ j : Nat, j ≤ n + 1 ∧ k = .int .i64 j ∧ Mat wr B (some ⟨g, 0, none⟩) cg R n h2 (midS f2 c v j) ∧ Below B w wr) (fun k _ => n + 1 - (intOf k).toNat)
            case atStart => exact ⟨0, by omega, rfl, by rw [midS_start]; exact SM.out, SB.out⟩
            case round =>
              obtain ⟨j, hj, rfl, hmat, hbel⟩ := hrel
              have HM1 := Lib.hid hmat
              have HB1 := Lib.hid hbel
              clear hmat hbel SM SB
              by_cases hjn : j ≤ n
              · have eC := HM1.out.head hca'
                have d1 := HM1.out.cell hca' hjn
                rw [midS_here] at d1
                have fz := HM1.out.frozen hca' j
                have NX := Lib.hid (midS_next f2 c v j)
                generalize f2 c j = y at d1 NX
                have r1 : (0 : Int) ≤ (j : Int) := by omega
                have r2 : (j : Int) < (n : Int) + 1 := by omega
                go_wp2_with fail
                refine region_tail 14 (by kernel_rfl) (by kernel_rfl) ?_
                simp only [List.take_succ_cons, List.take_zero, List.drop_succ_cons, List.drop_zero]
                repeat (first
                  | still_step
                  | still_call (stillOf (rmul_any _ _ y v _ rfl rfl)))
                refine wpStill_nil ?_
                go_wp2_with fail
                go_roundw
                case rel => exact ⟨j + 1, by omega, by go_num, by rw [← NX.out]; exact (HM1.out.store hca' hjn (y * v) rfl).drew, (HB1.out.setCell (p := ⟨(h2 c).1, j, none⟩) (HM1.out.blk hca').1 _).drew⟩
                case measure => simp only [intOf]; omega
              · have HJ := Lib.hid (show j = n + 1 by omega)
                go_wp2_with fail
                obtain ⟨f3, hf3⟩ : ∃ f3, f3 = scaleF f2 c v := ⟨_, rfl⟩
                have M3 := Lib.hid (HM1.out.congr (f' := scaleF f2 c v) (fun i hi k hk => by rw [HJ.out]; exact midS_done f2 c v n i k hk))
                rw [← hf3] at M3 SF
                have B3 := Lib.hid HB1.out
                obtain ⟨w4, rfl⟩ : ∃ w4, w4 = wr := ⟨_, rfl⟩
                clear hf3 HM1 HB1 SX HXE HP t1
                go_loopw [12] (fun v wr => ∃ i : Nat, i ≤ R ∧ v = .int .i64 i ∧ Mat wr B (some ⟨g, 0, none⟩) cg R n h2 (midE f3 c i 0) ∧ Below B w wr) (fun v _ => R - (intOf v).toNat)
                case atStart => exact ⟨0, by omega, rfl, by rw [midE_start]; exact M3.out, B3.out⟩
                case round =>
                  obtain ⟨i, hi, rfl, hmat, hbel⟩ := hrel
                  have HM4 := Lib.hid hmat
                  have HB4 := Lib.hid hbel
                  clear hmat hbel M3 B3
                  by_cases hiR : i < R
                  · have eI := HM4.out.head hiR
                    have dI := HM4.out.cell hiR (k := c) (by omega)
                    rw [show midE f3 c i 0 i c = f3 i c by unfold midE; rw [if_neg (by omega)]] at dI
                    obtain ⟨y, hy⟩ : ∃ y, y = f3 i c := ⟨_, rfl⟩
                    rw [← hy] at dI
                    have HY := Lib.hid hy
                    clear hy
                    obtain ⟨w5, rfl⟩ : ∃ w5, w5 = wr := ⟨_, rfl⟩
                    go_wp2_with fail
                    go_loopw [14] (fun k wr => ∃ j : Nat, j ≤ n + 1 ∧ k = .int .i64 j ∧ Hid ((i = c ∨ f3 i c = 0) → j = 0) ∧ Mat wr B (some ⟨g, 0, none⟩) cg R n h2 (midE f3 c i j) ∧ Below B w wr) (fun k _ => n + 1 - (intOf k).toNat)
                    case atStart => exact ⟨0, by omega, rfl, fun _ => rfl, HM4.out, HB4.out⟩
                    case round =>
                      obtain ⟨j, hj, rfl, HZ, hmat, hbel⟩ := hrel
                      have HM5 := Lib.hid hmat
                      have HB5 := Lib.hid hbel
                      clear hmat hbel HM4 HB4 eI dI
                      by_cases hic : i = c
                      · have hj0 := HZ.out (.inl hic)
                        have MS := Lib.hid (HM5.out.congr (f' := midE f3 c (i + 1) 0) (fun i' hi' k hk => by rw [hj0]; exact midE_skip f3 c i i' k (.inl hic)))
                        have s1 : ((i : Int) != (c : Int)) = false := by rw [hic]; exact bne_self_eq_false _
                        clear hj0 hic
                        go_wp2_with fail
                        go_roundw
                        case rel => exact ⟨i + 1, by omega, by go_num, MS.out, HB5.out⟩
                        case measure => simp only [intOf]; omega
                      · have s1 : ((i : Int) != (c : Int)) = true := by rw [bne_iff_ne]; omega
                        by_cases hy0 : y = 0
                        · have hj0 := HZ.out (.inr (by rw [← HY.out]; exact hy0))
                          have MS := Lib.hid (HM5.out.congr (f' := midE f3 c (i + 1) 0) (fun i' hi' k hk => by rw [hj0]; exact midE_skip f3 c i i' k (.inr (by rw [← HY.out]; exact hy0))))
                          have s2 := fne0 hy0
                          clear hj0 hic hy0
                          go_wp2_with fail
                          go_roundw
                          case rel => exact ⟨i + 1, by omega, by go_num, MS.out, HB5.out⟩
                          case measure => simp only [intOf]; omega
                        · have s2 := fne0' hy0
                          by_cases hjn : j ≤ n
                          · have eC := HM5.out.head hca'
                            have eI := HM5.out.head hiR
                            have d1 := HM5.out.cell hiR hjn
                            rw [midE_here] at d1
                            have d2 := HM5.out.cell hca' hjn
                            rw [midE_row] at d2
                            have fz := HM5.out.frozen hiR j
                            have NX := Lib.hid (midE_next f3 c i j)
                            have EX := Lib.hid (show elimF f3 c i j = f3 i j + y * f3 c j by unfold elimF; rw [if_neg hic, HY.out])
                            have HZN := Lib.hid (show (i = c ∨ f3 i c = 0) → j + 1 = 0 from fun h => by
                              rcases h with h | h
                              · exact absurd h hic
                              · exact absurd (HY.out.trans h) hy0)
                            generalize f3 i j = p at d1 EX
                            generalize f3 c j = q at d2 EX
                            have r1 : (0 : Int) ≤ (j : Int) := by omega
                            have r2 : (j : Int) < (n : Int) + 1 := by omega
                            have r3 : (0 : Int) ≤ (i : Int) := by omega
                            have r4 : (i : Int) < (R : Int) := by omega
                            clear hic hy0
                            go_wp2_with fail
                            refine region_tail 22 (by kernel_rfl) (by kernel_rfl) ?_
                            simp only [List.take_succ_cons, List.take_zero, List.drop_succ_cons, List.drop_zero]
                            repeat (first
                              | still_step
                              | still_call (stillOf (rmul_any _ _ y q _ rfl rfl)))
                            refine wpStill_nil ?_
                            go_wp2_with fail
                            go_roundw
                            case rel => exact ⟨j + 1, by omega, by go_num, HZN, by rw [← NX.out, EX.out]; exact (HM5.out.store hiR hjn (p + y * q) (bits_xor p (y * q))).drew, (HB5.out.setCell (p := ⟨(h2 i).1, j, none⟩) (HM5.out.blk hiR).1 _).drew⟩
                            case measure => simp only [intOf]; omega
                          · obtain rfl : j = n + 1 := by omega
                            have MS := Lib.hid (HM5.out.congr (fun i' hi' k hk => midE_end f3 c i n i' k hk))
                            clear hic hy0
                            go_wp2_with fail
                            go_roundw
                            case rel => exact ⟨i + 1, by omega, by go_num, MS.out, HB5.out⟩
                            case measure => simp only [intOf]; omega
                  · obtain rfl : i = R := by omega
                    have ME := Lib.hid (HM4.out.congr (fun i' hi' k hk => midE_done f3 c i i' k hi'))
                    rw [← SF.out] at ME
                    go_wp2_with fail
                    go_roundw
                    case rel => exact ⟨c + 1, h2, _, by omega, by omega, by go_num, by go_num, ME.out, SD.out, HB4.out⟩
                    case measure => simp only [intOf]; omega
        · obtain rfl : a = R := by omega
          have HS := Lib.hid (HMD.out.stuck hcn HZ.out)
          go_wp2_with fail
          go_ret2
          exact .inr ⟨rfl, HS.out, HB.out⟩
    · obtain rfl : c = n := by omega
      go_wp2_with fail
      go_loop [15] (fun v => ∃ i : Nat, c ≤ i ∧ i ≤ R ∧ v = .int .i64 i ∧ Hid (∀ k, c ≤ k → k < i → f' k c = 0)) (fun v => R - (intOf v).toNat)
      case atStart => exact ⟨c, Nat.le_refl _, hcR, rfl, fun k h1 h2 => by omega⟩
      case round =>
        obtain ⟨i, hci, hiR, rfl, HZ⟩ := hrel
        by_cases hi2 : i < R
        · have e1 := HMT.out.head hi2
          have e2 := HMT.out.cell hi2 (k := c) (Nat.le_refl _)
          by_cases hp : f' i c = 0
          · have t1 := fne0 hp
            have HZ2 := Lib.hid (show ∀ k, c ≤ k → k < i + 1 → f' k c = 0 from fun k h1 h2 => by
              rcases Nat.lt_or_ge k i with h3 | h3
              · exact HZ.out k h1 h3
              · obtain rfl : k = i := by omega
                exact hp)
            clear hp
            generalize f' i c = x at e2 t1
            go_wp2_with fail
            go_round
            case rel => exact ⟨i + 1, by omega, by omega, by go_num, HZ2⟩
            case measure => simp only [intOf]; omega
          · have t1 := fne0' hp
            have HN := Lib.hid (fun x => sol_none (x := x) HMD.out.unit hi2 hci hp)
            clear hp
            generalize f' i c = x at e2 t1
            go_wp2_with fail
            go_ret2
            exact .inr ⟨rfl, fun x hx => absurd ((HMD.out.same x).2 hx) (HN.out x), HB.out⟩
        · obtain rfl : i = R := by omega
          have HS := Lib.hid ((HMD.out.same _).1 (sol_done HMD.out.unit hcR (fun k h1 h2 => HZ.out k h1 h2)))
          have hsz := HB.out.size
          go_wp2_with fail
          go_loopw [16, 17] (fun v k wr => ∃ (j : Nat) (A : Option Addr) (c2 : Nat), j ≤ c ∧ k = .int .i64 j ∧ v = .slice A j c2 ∧ Own wr wo.heap.size A j c2 (tab j fun i => f' i c) ∧ Below wo.heap.size wo wr) (fun _ k _ => c - (intOf k).toNat)
          case atStart => exact ⟨0, none, 0, by omega, rfl, rfl, Own.nil _ _, Below.refl _ _⟩
          case round =>
            obtain ⟨j, A, c2, hj, rfl, rfl, hown, hbel⟩ := hrel
            have HO := Lib.hid hown
            have HBL := Lib.hid hbel
            by_cases hjc : j < c
            · have HM2 := Lib.hid (HMT.out.below hbel)
              have hjR : j < i := by omega
              have e1 := HM2.out.head hjR
              have e2 := HM2.out.cell hjR (k := c) (Nat.le_refl _)
              have HT := Lib.hid (show tab j (fun i => f' i c) ++ [f' j c] = tab (j + 1) (fun i => f' i c) by simp [tab, List.range_succ])
              generalize f' j c = x at e2 HT
              clear hown hbel HM2
              go_wp2_with (at_builtin; refine wpList_push _ rfl _ _ rfl wo.heap.size _ _ _ _ rfl (HO.out.alloc _) wr.heap.size 1 x _ rfl rfl (by go_cell) (by omega) (by have := HBL.out.size; simp; omega) ?_; intro A' c' w1 hown1 hb1 hg1)
              go_roundw
              case rel => exact ⟨j + 1, A', c', by omega, by go_num, rfl, by rw [← HT.out]; exact hown1, (HBL.out.alloc HBL.out.size _).trans hb1⟩
              case measure => simp only [intOf]; omega
            · obtain rfl : j = c := by omega
              clear hown hbel
              go_wp2_with fail
              go_ret2
              exact .inl ⟨A, c2, _, rfl, HO.out.less' hsz, HS.out, HB.out.trans (HBL.out.mono (Nat.le_trans hB hsz))⟩
end Go.Proofs.Ytbahelhhkmonmaa
