/- The walk of the document's way to fill in places. -/
import Derived.Test.YtbahelhhkmonmaaSv
import Derived.Test.YtbahelhhkmonmaaEm
import Derived.Test.YtbahelhhkmonmaaRm
namespace Go.Proofs.Ytbahelhhkmonmaa
open Go.RowKit Go.Shelf

set_option maxRecDepth 100000 in
set_option maxHeartbeats 1000000 in
theorem solve_nil (A : Option Addr) (cg : Nat) (w : World) : Calls Try.prog 27 #[.slice A 0 cg, .int .i64 0] w fun e w' => e = .returned (.tuple #[.slice none 0 0, .bool true]) ∧ w = w' := by
  go_enter Try.func27, Try.ntmps27
  go_wp2_with fail
  go_loop [6, 7] (fun u v => u = .int .i64 0 ∧ v = .int .i64 0) (fun _ _ => 0)
  case atStart => exact ⟨rfl, rfl⟩
  case round =>
    obtain ⟨rfl, rfl⟩ := hrel
    go_wp2_with fail
    go_loop [15] (fun v => v = .int .i64 0) (fun _ => 0)
    case atStart => rfl
    case round =>
      obtain rfl := hrel
      go_wp2_with fail
      go_loop [16, 17] (fun u v => u = .slice none 0 0 ∧ v = .int .i64 0) (fun _ _ => 0)
      case atStart => exact ⟨rfl, rfl⟩
      case round =>
        obtain ⟨rfl, rfl⟩ := hrel
        go_wp2_with fail
        go_ret2
        exact ⟨rfl, rfl⟩
theorem solve_gen (A : Option Addr) (cg R n B : Nat) (h : Nat → Nat × Nat) (f : Nat → Nat → F) (w : World) (hm : Mat w B A cg R n h f) (hR : n ≤ R) (hR2 : R ≤ 1000) (hB : B ≤ w.heap.size) :
    Calls Try.prog 27 #[.slice A R cg, .int .i64 n] w (RetSolve B w R n f) := by
  rcases Nat.eq_zero_or_pos R with h0 | h0
  · obtain rfl : n = 0 := by omega
    subst h0
    refine (solve_nil A cg w).mono ?_
    rintro e w' ⟨rfl, rfl⟩
    exact .inl ⟨none, 0, fun _ => 0, rfl, Own.nil _ _, fun i hi => absurd hi (by omega), Below.refl _ _⟩
  · exact solve_any A cg R n B h f w hm h0 hR2 (by omega) hB

theorem tab_next (f : Nat → F) (i : Nat) : tab i f ++ [f i] = tab (i + 1) f := by simp [tab, List.range_succ]
theorem Mat.push {w w2 : World} {B cg j n g c c' : Nat} {A A' : Option Addr} {h : Nat → Nat × Nat} {f : Nat → Nat → F} (m : Mat w B A cg j n h f) (hrow : Own w B (some ⟨g, 0, none⟩) (n + 1) c (tab (n + 1) (f j))) (hne : ∀ i, i < j → (h i).1 ≠ g)
    (htop : OwnV 22 w2 B A' (j + 1) c' ((List.range j).map (rowV n h) ++ [.slice (some ⟨g, 0, none⟩) (n + 1) c])) (hg : w.grownBy w2 (Value.slice A j cg).ownBlock) :
    Mat w2 B A' c' (j + 1) n (fun i => if i = j then (g, c) else h i) f := by
  have hrb : ∀ {l : List F} {g' c2 : Nat}, Own w B (some ⟨g', 0, none⟩) (n + 1) c2 l → some g' ≠ (Value.slice A j cg).ownBlock := fun {l g' c2} ho e => by
    cases A with
    | none => cases e
    | some ad =>
      simp only [Value.ownBlock, Option.some.injEq] at e
      have h2 := m.top
      rcases h2.2.2 with ⟨hv, _⟩ | ⟨g3, cap, cur, hv, _⟩
      · cases hv
      · injection hv with hv; injection hv with hv; subst hv
        exact own_apart ho h2 e
  refine ⟨?_, fun i hi => ?_, fun i i' hi hi' e => ?_⟩
  · rw [List.range_succ, List.map_append]
    refine Eq.mp ?_ htop
    congr 1
    congr 1
    · refine List.map_congr_left fun i hi => ?_
      have := List.mem_range.1 hi
      show Value.slice (some ⟨(h i).1, 0, none⟩) (n + 1) (h i).2 = Value.slice (some ⟨(if i = j then (g, c) else h i).1, 0, none⟩) (n + 1) (if i = j then (g, c) else h i).2
      rw [if_neg (by omega)]
    · simp [rowV]
  · by_cases e : i = j
    · subst e
      simp only [if_pos]
      exact hrow.grown hg (hrb hrow)
    · simp only [if_neg e]
      exact (m.rows i (by omega)).grown hg (hrb (m.rows i (by omega)))
  · by_cases e1 : i = j
    · by_cases e2 : i' = j
      · omega
      · simp only [if_pos e1, if_neg e2] at e
        exact absurd e.symm (hne i' (by omega))
    · by_cases e2 : i' = j
      · simp only [if_neg e1, if_pos e2] at e
        exact absurd e (hne i (by omega))
      · simp only [if_neg e1, if_neg e2] at e
        exact m.inj i i' (by omega) (by omega) e

theorem er_facts {n p j : Nat} (hn : n ≤ 255) (hp : p < n) (hj : j ≤ 254) : ∃ q t : Nat, q = n - 1 - p ∧ t = j * q ∧ t < 65535 ∧ wrap64 ((n : Int) - 1) = (n : Int) - 1 ∧ wrap64 ((n : Int) - 1 - (p : Int)) = (q : Int) ∧ (j : Int) * (q : Int) = (t : Int) ∧ wrap64 ((j : Int) * (q : Int)) = (t : Int) ∧ wrap64 (t : Int) = (t : Int) ∧ wrap64 ((j : Int) * ((n : Int) - 1 - (p : Int))) = (t : Int) := by
  have e1 : (n : Int) - 1 - (p : Int) = ((n - 1 - p : Nat) : Int) := by omega
  have hjq : j * (n - 1 - p) ≤ 254 * 254 := Nat.mul_le_mul hj (by omega)
  have e3 : (j : Int) * ((n - 1 - p : Nat) : Int) = ((j * (n - 1 - p) : Nat) : Int) := (Int.natCast_mul _ _).symm
  have small : ∀ t : Nat, t < 65535 → wrap64 (t : Int) = (t : Int) := fun t ht => IntWalk.wrap64_in _ ⟨by omega, by omega⟩
  have hlt : j * (n - 1 - p) < 65535 := Nat.lt_of_le_of_lt hjq (by decide)
  refine ⟨n - 1 - p, j * (n - 1 - p), rfl, rfl, hlt, ?_, ?_, e3, ?_, small _ hlt, ?_⟩
  · exact IntWalk.wrap64_in _ ⟨by omega, by omega⟩
  · rw [e1]; exact small _ (by omega)
  · rw [e3]; exact small _ hlt
  · rw [e1, e3]; exact small _ hlt
def RetEr (w : World) (n r : Nat) (ps : List Nat) (l : List F) (e : Ending) (w' : World) : Prop :=
  (∃ (A : Option Addr) (c : Nat) (d : List F), e = .returned (.tuple #[.slice A n c, .bool true]) ∧ Own w' w.heap.size A n c d ∧ Filled n r ps l d ∧ Below w.heap.size w w') ∨
  (e = .returned (.tuple #[.slice none 0 0, .bool false]) ∧ (∀ d, ¬ Filled n r ps l d) ∧ Below w.heap.size w w')

set_option maxRecDepth 100000 in
set_option maxHeartbeats 8000000 in
theorem erased_any (A Ap : Option Addr) (n c r m cp : Nat) (l : List F) (ps : List Nat) (w : World) (hl : l.length = n) (hrd : Rd w w.heap.size A l) (hps : ps.length = m) (hrg : RdG w w.heap.size Ap ps) (hn : n ≤ 255) (hn1 : 1 ≤ n) (hrn : r ≤ n) (hmr : m ≤ r) (hnd : ps.Nodup) (hlt : ∀ p ∈ ps, p < n) :
    Calls Try.prog 28 #[.slice A n c, .int .i64 r, .slice Ap m cp] w (RetEr w n r ps l) := by
  have HL := Lib.hid hl
  have HRD := Lib.hid hrd
  have HPS := Lib.hid hps
  have HRG := Lib.hid hrg
  have HND := Lib.hid hnd
  have HLT := Lib.hid hlt
  clear hl hrd hps hrg hnd hlt
  go_enter Try.func28, Try.ntmps28
  go_wp2_with (refine wpList_ext _ rfl (.tmp 18) (.tmp 19) rfl w.heap.size _ 0 _ [] rfl (Own.lit w w.heap.size [] _ (Nat.le_refl _) (by decide) rfl) A n c _ l rfl HL.out (HRD.out.below (balloc w _)) (by omega) (by simp) ?_; intro A1 c1 w1 hown1 hb1 hg1; simp only [Nat.zero_add, List.nil_append] at hown1)
  obtain ⟨g1, rfl, hg1a, hg1b⟩ := hown1.form (by omega)
  have O1 := Lib.hid hown1
  have B1 := Lib.hid ((balloc w (.cells #[] 29)).trans hb1)
  clear hown1 hb1 hg1
  go_loopw [9] (fun v wr => ∃ k : Nat, k ≤ m ∧ v = .int .i64 k ∧ Own wr w.heap.size (some ⟨g1, 0, none⟩) n c1 (zeroAt l (ps.take k)) ∧ Below w.heap.size w wr) (fun v _ => m - (intOf v).toNat)
  case atStart => exact ⟨0, Nat.zero_le _, rfl, O1.out, B1.out⟩
  case round =>
    obtain ⟨k, hk, rfl, hown, hbel⟩ := hrel
    have HO := Lib.hid hown
    have HB := Lib.hid hbel
    clear hown O1 B1
    by_cases hkm : k < m
    · obtain ⟨b, off, rfl, hb, hc⟩ := (HRG.out.below hbel) (by rw [HPS.out]; omega)
      have cc := hc k (by rw [HPS.out]; exact hkm)
      have hx : ps.getD k 0 < n := HLT.out _ (getD_mem (by rw [HPS.out]; exact hkm))
      have HZ := Lib.hid (zeroAt_take l (gs := ps) (k := k) (by rw [HPS.out]; exact hkm))
      generalize ps.getD k 0 = i at cc hx HZ
      generalize zeroAt l (ps.take k) = o at HO HZ
      have ex := HO.out.cell hx
      have fx := HO.out.frozen i
      clear hc hbel
      go_wp2_with fail
      go_roundw
      case rel => exact ⟨k + 1, by omega, by go_num, by rw [HZ.out]; exact HO.out.store i 0 rfl, HB.out.setCell (p := ⟨g1, i, none⟩) hg1a _⟩
      case measure => simp only [intOf]; omega
    · obtain rfl : k = m := by omega
      have e : ps.take k = ps := List.take_of_length_le (by rw [HPS.out]; exact Nat.le_refl _)
      rw [e] at HO
      obtain ⟨z, hz⟩ : ∃ z, z = zeroAt l ps := ⟨_, rfl⟩
      rw [← hz] at HO
      have HZ := Lib.hid hz
      have HZL := Lib.hid (show z.length = n by rw [hz, zeroAt_length, HL.out])
      clear e hz hbel
      obtain ⟨wo, rfl⟩ : ∃ wo, wo = wr := ⟨_, rfl⟩
      go_wp2_with fail
      refine (rsums4_any _ n c1 r z _ HZL.out (by exact HO.out.rd) hn (by omega)).mono ?_
      rintro e w2 ⟨A2, c2, rfl, hown2, hb2⟩
      have S2 := Lib.hid hown2
      have O2 := Lib.hid (HO.out.below hb2)
      have B2 := Lib.hid (bstep HB.out (Nat.le_refl _) hb2)
      have hs2 := B2.out.size
      have G2 := Lib.hid ((HRG.out.below B2.out).more hs2)
      have YES := Lib.hid (fun x => filled_yes (r := r) (x := x) HL.out HND.out HLT.out)
      have NO := Lib.hid (filled_no (r := r) hn HL.out HND.out HLT.out (by rw [HPS.out]; exact hmr))
      rw [← HZ.out, HPS.out] at YES NO
      have SL := Lib.hid (sumsL_length z r)
      have EQ := Lib.hid (show ∀ j i, eqF n ps (sumsL z r) j i = if i < k then F.px (j * (n - 1 - ps.getD i 0)) else (sumsL z r).getD j 0 from fun j i => by unfold eqF; rw [HPS.out])
      generalize sumsL z r = s at S2 YES NO SL EQ
      obtain ⟨f, hf⟩ : ∃ f, f = eqF n ps s := ⟨_, rfl⟩
      rw [← hf] at YES NO EQ
      clear hf hown2 hb2 HO HB
      go_wp2_with fail
      go_loopw [11, 12] (fun v u wr => ∃ (j : Nat) (A3 : Option Addr) (c3 : Nat) (h : Nat → Nat × Nat), j ≤ r ∧ u = .int .i64 j ∧ v = .slice A3 j c3 ∧ Mat wr w2.heap.size A3 c3 j k h f ∧ Below w2.heap.size w2 wr) (fun _ u _ => r - (intOf u).toNat)
      case atStart => exact ⟨0, none, 0, fun _ => (0, 0), Nat.zero_le _, rfl, rfl, ⟨OwnV.nil _ _ _, fun i hi => absurd hi (by omega), fun i _ hi => absurd hi (by omega)⟩, Below.refl _ _⟩
      case round =>
        obtain ⟨j, A3, c3, h, hj, rfl, rfl, hmat, hbel⟩ := hrel
        have HM := Lib.hid hmat
        have HB := Lib.hid hbel
        clear hmat
        obtain ⟨wq, rfl⟩ : ∃ wq, wq = wr := ⟨_, rfl⟩
        by_cases hjr : j < r
        · have hsq := HB.out.size
          clear hbel
          go_wp2_with fail
          go_loopw [13, 14] (fun v u wr => ∃ (i : Nat) (Ar : Option Addr) (cr : Nat), i ≤ k ∧ u = .int .i64 i ∧ v = .slice Ar i cr ∧ Own wr wq.heap.size Ar i cr (tab i (f j)) ∧ Below wq.heap.size wq wr) (fun _ u _ => k - (intOf u).toNat)
          case atStart => exact ⟨0, none, 0, Nat.zero_le _, rfl, rfl, Own.nil _ _, Below.refl _ _⟩
          case round =>
            obtain ⟨i, Ar, cr, hi, rfl, rfl, hown, hbel⟩ := hrel
            have HO := Lib.hid hown
            have HBQ := Lib.hid hbel
            have hsr := hbel.size
            clear hown hbel
            by_cases hik : i < k
            · obtain ⟨b, off, rfl, hb, hc⟩ := ((G2.out.below HB.out).more hsq |>.below HBQ.out) (by rw [HPS.out]; omega)
              have cc := hc i (by rw [HPS.out]; exact hik)
              have hx : ps.getD i 0 < n := HLT.out _ (getD_mem (by rw [HPS.out]; exact hik))
              have HE := Lib.hid ((EQ.out j i).trans (if_pos hik))
              have HT := Lib.hid (tab_next (f j) i)
              generalize tab i (f j) = o at HO HT
              generalize ps.getD i 0 = p at cc hx HE
              rw [HE.out] at HT
              obtain ⟨q, t, hq, ht, hT5, W1, W2, W3, W4, W5, W6⟩ := er_facts hn hx (show j ≤ 254 by omega)
              rw [← hq, ← ht] at HT
              have HT5 := Lib.hid hT5
              have HW6 := Lib.hid W6
              clear hc HE hq ht hT5 W1 W2 W3 W4 W5 W6
              go_wp2_with fail
              rw [HW6.out]
              refine (rexp_k t _ HT5.out).mono ?_
              rintro e w' ⟨rfl, rfl⟩
              generalize F.px t = y at HT ⊢
              go_wp2_with (at_builtin; refine wpList_push _ rfl _ _ rfl wq.heap.size _ _ _ _ rfl (HO.out.alloc _) wr.heap.size 1 y _ rfl rfl (by go_cell) (by omega) (by simp; omega) ?_; intro A4 c4 w4 hown4 hb4 hg4)
              go_roundw
              case rel => exact ⟨i + 1, A4, c4, by omega, by go_num, rfl, by rw [← HT.out]; exact hown4, (HBQ.out.alloc hsr _).trans hb4⟩
              case measure => simp only [intOf]; omega
            · obtain rfl : i = k := by omega
              have S3 := Lib.hid ((S2.out.below HB.out).below HBQ.out)
              obtain ⟨g2, rfl, hg2a, hg2b⟩ := S3.out.form (by omega)
              have d2 := S3.out.cell hjr
              have HE := Lib.hid ((EQ.out j i).trans (if_neg (Nat.lt_irrefl i)))
              have HT := Lib.hid (tab_next (f j) i)
              rw [HE.out] at HT
              generalize s.getD j 0 = y at d2 HT
              clear HE
              go_wp2_with (first
                | (refine wpList_push _ rfl (.tmp 62) (.tmp 67) rfl wq.heap.size _ _ _ _ rfl (HO.out.alloc _) wr.heap.size 1 y _ rfl rfl (by go_cell) (by omega) (by simp; omega) ?_; intro A4 c4 w4 hown4 hb4 hg4; obtain ⟨g4, rfl, hg4a, hg4b⟩ := hown4.form (by omega); have B4 := Lib.hid ((HBQ.out.alloc hsr (.cells #[.int .u16 y.nat] 29)).trans hb4); rw [HT.out] at hown4; have O4 := Lib.hid hown4; have HM4 := Lib.hid (HM.out.below B4.out); have hs4 := B4.out.size; clear hown4 hb4 hg4)
                | (refine wpList_pushV row_el _ rfl (.tmp 61) (.tmp 69) rfl w2.heap.size _ _ _ _ rfl (HM4.out.top.alloc _) w4.heap.size 1 (.slice (some ⟨g4, 0, none⟩) (i + 1) c4) rfl rfl (by go_cell) (by omega) (by simp; omega) ?_; intro A5 c5 w5 hown5 hb5 hg5))
              have hm5 := (HM4.out.alloc (.cells #[.slice (some ⟨g4, 0, none⟩) (i + 1) c4] 22)).push ((O4.out.less' hsq).alloc _) (fun i' hi' => by have := (HM.out.blk hi').2; omega) hown5 hg5
              have M5 := Lib.hid hm5
              have B5 := Lib.hid ((((HB.out.trans (B4.out.mono hsq))).alloc (by omega) (.cells #[.slice (some ⟨g4, 0, none⟩) (i + 1) c4] 22)).trans hb5)
              clear hown5 hb5 hg5 hm5
              go_roundw
              case rel => exact ⟨j + 1, A5, c5, _, by omega, by go_num, rfl, M5.out, B5.out⟩
              case measure => simp only [intOf]; omega
        · obtain rfl : j = r := by omega
          have hsq := HB.out.size
          go_wp2_with fail
          refine (solve_gen A3 c3 j k w2.heap.size h f _ HM.out hmr (by omega) hsq).mono ?_
          rintro e w3 hret
          rcases hret with ⟨A6, c6, x, rfl, ho6, hsol, hb6⟩ | ⟨rfl, hno, hb6⟩
          · have YS := Lib.hid (YES.out x hsol)
            have X6 := Lib.hid ho6
            have B6' := Lib.hid hb6
            have O6 := Lib.hid (O2.out.below (HB.out.trans hb6))
            clear hsol ho6 hb6
            obtain ⟨g1', eg, _, hg1c⟩ := O2.out.form (by omega)
            injection eg with eg
            injection eg with eg
            subst eg
            have B36 := Lib.hid (B2.out.trans ((HB.out.trans B6'.out).mono hs2))
            clear O2 S2 HM HB
            go_wp2_with fail
            go_loopw [17] (fun v wr => ∃ i : Nat, i ≤ k ∧ v = .int .i64 i ∧ Own wr w.heap.size (some ⟨g1, 0, none⟩) n c1 (fillTo z ps x i) ∧ Own wr wq.heap.size A6 k c6 (tab k x) ∧ Below w.heap.size w wr) (fun v _ => k - (intOf v).toNat)
            case atStart => exact ⟨0, Nat.zero_le _, rfl, O6.out, X6.out, B36.out⟩
            case round =>
              obtain ⟨i, hi, rfl, hown, hx, hbel⟩ := hrel
              have HO := Lib.hid hown
              have HX := Lib.hid hx
              have HBL := Lib.hid hbel
              clear hown hx O6 X6 B36
              by_cases hik : i < k
              · obtain ⟨b, off, rfl, hb, hc⟩ := (HRG.out.below hbel) (by rw [HPS.out]; omega)
                have d1 := hc i (by rw [HPS.out]; exact hik)
                obtain ⟨g6, rfl, hg6a, hg6b⟩ := HX.out.form (by omega)
                have d2 := HX.out.cell hik
                rw [tab_getD _ _ _ hik] at d2
                have hp : ps.getD i 0 < n := HLT.out _ (getD_mem (by rw [HPS.out]; exact hik))
                have HS := Lib.hid (show fillTo z ps x (i + 1) = (fillTo z ps x i).set (ps.getD i 0) (x i) from rfl)
                generalize ps.getD i 0 = p at d1 hp HS
                generalize fillTo z ps x i = o at HO HS
                generalize x i = y at d2 HS
                have q2 : (0 : Int) ≤ (i : Int) := by omega
                have q3 : (i : Int) < (k : Int) := by omega
                have q5 : (0 : Int) ≤ (p : Int) := by omega
                have q6 : (p : Int) < (n : Int) := by omega
                have fz := HO.out.frozen p
                have ex := HO.out.cell hp
                clear hc hbel
                go_wp2_with fail
                refine region_tail 9 (by kernel_rfl) (by kernel_rfl) ?_
                simp only [List.take_succ_cons, List.take_zero, List.drop_succ_cons, List.drop_zero]
                repeat (first | still_step)
                refine wpStill_nil ?_
                go_wp2_with fail
                go_roundw
                case rel => exact ⟨i + 1, by omega, by go_num, by rw [HS.out]; exact (HO.out.store p y rfl).drew, (Own.ofV (HX.out.toV.set_far (p := ⟨g1, p, none⟩) (by show g1 < wq.heap.size; omega) _)).drew, (HBL.out.setCell (p := ⟨g1, p, none⟩) hg1a _).drew⟩
                case measure => simp only [intOf]; omega
              · obtain rfl : i = k := by omega
                go_wp2_with fail
                go_ret2
                exact .inl ⟨_, c1, _, rfl, HO.out, YS.out, HBL.out⟩
          · have NX := Lib.hid (NO.out hno)
            have B6 := Lib.hid (B2.out.trans ((HB.out.trans hb6).mono hs2))
            clear hno hb6
            go_wp2_with fail
            go_ret2
            exact .inr ⟨rfl, NX.out, B6.out⟩
end Go.Proofs.Ytbahelhhkmonmaa
