/- The walk of a polynomial's value: a range over slices.Backward. -/
import Derived.RangeFuncBox
import Derived.RangeFuncNested
import Derived.RangeFuncBound
import Derived.RangeFuncCalls
import Derived.RangeFuncLeaves
import Derived.Shelf.Abstract
import Derived.Shelf.RegionOpen
import Derived.WalkKit
import Derived.OwnWalkIn
import Derived.TacticsInMore
import Derived.LoopNIn
import Derived.LoopIn
import Derived.Test.YthejbmjleohlfaaPw
namespace Go.Proofs.Ythejbmjleohlfaa
open Go.RowKit Go.Shelf

attribute [local go_sem] Oper.semAt_some

/-- What has come when k rounds are over. -/
def upto {α : Type} (f : Nat → α) (k : Nat) : List α := (List.range k).map f
theorem upto_succ {α : Type} (f : Nat → α) (k : Nat) : upto f (k + 1) = upto f k ++ [f k] := by simp [upto, List.range_succ]
theorem upto_length {α : Type} (f : Nat → α) (k : Nat) : (upto f k).length = k := by simp [upto]
/-- The pairs of slices.Backward. -/
def backF (l : List F) (j : Nat) : Nat × F := (l.length - 1 - j, l.getD (l.length - 1 - j) 0)
def encB (x : Nat × F) : Array Value := #[.int .i64 (x.1 : Int), .int .u16 (x.2.nat : Int)]

/-- Kept: what lies below n₀, and block Bs. -/
def KpB (n₀ Bs : Nat) (W W' : World) : Prop := Below n₀ W W' ∧ W'.heap[Bs]? = W.heap[Bs]?
theorem kpB_t {n₀ Bs : Nat} {A B C : World} (h : KpB n₀ Bs A B) (k : KpB n₀ Bs B C) : KpB n₀ Bs A C := ⟨h.1.trans k.1, k.2.trans h.2⟩
theorem kpB_b {n₀ Bs : Nat} {w : World} (hn : n₀ ≤ w.heap.size) (hB : Bs < w.heap.size) (W : World) (l : Nat) (o o' : Obj) (hl : w.heap.size ≤ l) (h : W.heap[l]? = some o) (h1 : o.isCells = false) (h2 : o.isWalk = false) : KpB n₀ Bs W (W.putObj l o') :=
  ⟨belowK_b hn W l o o' hl h h1 h2, (belowK_b (n₀ := Bs + 1) (w := w) hB W l o o' hl h h1 h2).block Bs (Nat.lt_succ_self _)⟩

set_option maxRecDepth 100000 in
set_option maxHeartbeats 2000000 in
/-- The closure of slices.Backward, for every loop body that keeps what lay below n₀, and the captured slice. -/
theorem back1_in (F0 : Fence) (n : Nat) (h7 : F0.fn 75) (hro : F0.round = none) (hn : 1 ≤ n) (l Bs n₀ len cap : Nat) (A : Option Addr) (zs : List F) (hlen : zs.length = len) (hm : len ≤ 100000) (J Jx : List (Nat × F) → World → Prop)
    (hY : ∀ pre x W, J pre W → pre.length < len → YieldAt F0 (n - 1) Try.prog l #[.int .i64 (x.1 : Int), .int .u16 (x.2.nat : Int)] W fun e W' =>
      (e = .returned (.bool true) ∧ J (pre ++ [x]) W' ∧ KpB n₀ Bs W W') ∨ (e = .returned (.bool false) ∧ Jx (pre ++ [x]) W'))
    (W : World) (hBs : W.cell? ⟨Bs, 0, none⟩ = some (.slice A len cap)) (hrd : Rd W n₀ A zs) (h0 : J [] W) :
    CallsIn F0 n Try.prog 75 #[.func (.yield l) #[] #[], .pointer (some ⟨Bs, 0, none⟩)] W fun e W' => (∃ v, e = .returned v) ∧
      ((∃ ys, ys = upto (backF zs) len ∧ J ys W') ∨ (∃ pre, (∃ k, k ≤ len ∧ pre = upto (backF zs) k) ∧ Jx pre W')) := by
  have HL := Lib.hid hlen
  have HRD := Lib.hid hrd
  clear hlen hrd
  refine callsIn_of_wp Try.func75 rfl h7 ?_ hro
  simp only [Try.ntmps75, List.size_toArray, List.length_cons, List.length_nil, Nat.reduceAdd, Nat.reduceSub, Array.replicate_succ, Array.replicate_zero, List.push_toArray, List.append_toArray, List.nil_append, List.cons_append]
  gi_wp2
  gi_loopw [3] (fun i wr => ∃ k : Nat, k ≤ len ∧ i = .int .i64 ((len : Int) - 1 - (k : Int)) ∧ J (upto (backF zs) k) wr ∧ KpB n₀ Bs W wr)
    (fun i _ => (intOf i + 1).toNat)
  case atStart => exact ⟨0, Nat.zero_le _, by congr 1; omega, h0, Below.refl _ _, rfl⟩
  case round =>
    obtain ⟨k, hk, rfl, hJs, hnx⟩ := hrel
    by_cases hlt : k < len
    · have hbx : wr.cell? ⟨Bs, 0, none⟩ = some (.slice A len cap) := (World.cell?_of_block (w := W) (a := ⟨Bs, 0, none⟩) hnx.2).trans hBs
      obtain ⟨b, off, rfl, hb, hc⟩ := (HRD.out.below hnx.1) (by rw [HL.out]; omega)
      have hcx := hc (len - 1 - k) (by rw [HL.out]; omega)
      obtain ⟨fn, tmps, assign, body, hy, hR⟩ := hY _ (backF zs k) wr hJs (by rw [upto_length]; exact hlt)
      have e1 : (backF zs k).1 = len - 1 - k := by show zs.length - 1 - k = _; rw [HL.out]
      have e2 : (backF zs k).2 = zs.getD (len - 1 - k) 0 := by show zs.getD (zs.length - 1 - k) 0 = _; rw [HL.out]
      rw [e1, e2] at hy
      have HUP := Lib.hid (upto_succ (backF zs) k)
      clear hc e1 e2
      generalize zs.getD (len - 1 - k) 0 = z at hy hcx
      obtain ⟨i, hi⟩ : ∃ i, i = len - 1 - k := ⟨_, rfl⟩
      rw [← hi] at hy hcx
      have hi2 : (len : Int) - 1 - (k : Int) = (i : Int) := by omega
      have hil : i < len := by omega
      rw [hi2]
      have q1 : (0 : Int) ≤ (i : Int) := by omega
      have q2 : (i : Int) < (len : Int) := by omega
      clear hi
      gi_wp2
      refine hR.mono ?_
      rintro e W3 (⟨rfl, hJ3, hk3⟩ | ⟨rfl, hJx3⟩)
      · gi_wp2
        go_roundw
        case rel => exact ⟨k + 1, by omega, by congr 1; omega, by rw [HUP.out]; exact hJ3, kpB_t hnx hk3⟩
        case measure => simp only [intOf]; omega
      · gi_wp2
        refine bodyPost_ret (results_none rfl _ _ _) rfl ?_
        exact ⟨⟨_, rfl⟩, .inr ⟨_, ⟨k + 1, by omega, HUP.out.symm⟩, hJx3⟩⟩
    · obtain rfl : k = len := by omega
      have e : ((k : Int) - 1 - (k : Int)) = -1 := by omega
      rw [e]
      gi_wp2
      go_end0
      exact ⟨⟨_, rfl⟩, .inl ⟨_, rfl, hJs⟩⟩

set_option maxHeartbeats 1000000 in
theorem back_in (F0 : Fence) (n : Nat) (h5 : F0.fn 69) (hro : F0.round = none) (a : Option Addr) (len cap : Nat) (w : World) :
    CallsIn F0 n Try.prog 69 #[.slice a len cap] w fun e w' => e = .returned (.func (.func 75) #[] #[.pointer (some ⟨w.heap.size, 0, none⟩)]) ∧ w' = w.alloc (.cells #[.slice a len cap] 58) := by
  refine callsIn_of_wp Try.func69 rfl h5 ?_ hro
  simp only [Try.ntmps69, List.size_toArray, List.length_cons, List.length_nil, Nat.reduceAdd, Nat.reduceSub, Array.replicate_succ, Array.replicate_zero, List.push_toArray, List.append_toArray, List.nil_append, List.cons_append]
  gi_wp2
  go_ret
  exact ⟨rfl, rfl⟩

theorem back_stops (F0 : Fence) (n : Nat) (h7 : F0.fn 75) (hro : F0.round = none) (hn : 1 ≤ n) (Bs n₀ len cap : Nat) (A : Option Addr) (zs : List F) (hlen : zs.length = len) (hm : len ≤ 100000) (w : World) (hBs : Bs < w.heap.size) (hn₀ : n₀ ≤ w.heap.size)
    (hc : w.cell? ⟨Bs, 0, none⟩ = some (.slice A len cap)) (hI : Rd w n₀ A zs) :
    SeqStopsK F0 n Try.prog 75 #[.pointer (some ⟨Bs, 0, none⟩)] encB (KpB n₀ Bs) (fun ys => ys = upto (backF zs) len) (fun pre => ∃ k, k ≤ len ∧ pre = upto (backF zs) k) len w := fun l J Jx W hW _ _ hY h0 =>
  back1_in F0 n h7 hro hn l Bs n₀ len cap A zs hlen hm J Jx hY W ((hW.cell (p := ⟨Bs, 0, none⟩) hBs).trans hc) (hI.below (hW.mono hn₀)) h0

/-- A polynomial's value as the loop reckons it. -/
def pvB (x : F) (pre : List (Nat × F)) : F := pre.foldl (fun v p => v * x + p.2) 0
theorem pvB_snoc (x : F) (pre : List (Nat × F)) (p : Nat × F) : pvB x (pre ++ [p]) = pvB x pre * x + p.2 := by simp [pvB]
theorem pvB_all (x : F) (l : List F) : pvB x (upto (backF l) l.length) = pv l x := by
  have key : ∀ k, k ≤ l.length → pvB x (upto (backF l) k) = pv (l.drop (l.length - k)) x := by
    intro k
    induction k with
    | zero => intro _; rw [Nat.sub_zero, List.drop_length]; rfl
    | succ k ih =>
      intro hk
      rw [upto_succ, pvB_snoc, ih (by omega)]
      have e : l.drop (l.length - (k + 1)) = l.getD (l.length - (k + 1)) 0 :: l.drop (l.length - k) := by
        rw [List.drop_eq_getElem_cons (by omega), List.getD, List.getElem?_eq_getElem (by omega), show l.length - (k + 1) + 1 = l.length - k from by omega]
        rfl
      rw [e, pv]
      show _ + l.getD (l.length - 1 - k) 0 = _
      rw [show l.length - 1 - k = l.length - (k + 1) from by omega]
  have := key l.length (Nat.le_refl _)
  rw [Nat.sub_self, List.drop_zero] at this
  exact this
theorem round_end {B : Nat} {w W : World} {v v' x y : F} {q : Value} (hB : Below B w W) (hc : W.cell? ⟨B + 3, 0, none⟩ = some (.int .u16 (v.nat : Int))) (hf : W.frozen? ⟨B + 3, 0, none⟩ = false) (hx : W.cell? ⟨B, 0, none⟩ = some (.int .u16 (x.nat : Int)))
    (hp : W.cell? ⟨B + 2, 0, none⟩ = some q) (hv : v' = v * x + y) {K : Nat} :
    KeepsFrom K W (W.setCell ⟨B + 3, 0, none⟩ (.int .u16 ((v * x + y : F).nat : Int))).drew ∧ KpB B (B + 4) W (W.setCell ⟨B + 3, 0, none⟩ (.int .u16 ((v * x + y : F).nat : Int))).drew ∧
      (((W.setCell ⟨B + 3, 0, none⟩ (.int .u16 ((v * x + y : F).nat : Int))).drew.cell? ⟨B + 3, 0, none⟩ = some (.int .u16 (v'.nat : Int)) ∧ (W.setCell ⟨B + 3, 0, none⟩ (.int .u16 ((v * x + y : F).nat : Int))).drew.frozen? ⟨B + 3, 0, none⟩ = false) ∧
        (W.setCell ⟨B + 3, 0, none⟩ (.int .u16 ((v * x + y : F).nat : Int))).drew.cell? ⟨B, 0, none⟩ = some (.int .u16 (x.nat : Int)) ∧ (W.setCell ⟨B + 3, 0, none⟩ (.int .u16 ((v * x + y : F).nat : Int))).drew.cell? ⟨B + 2, 0, none⟩ = some q) ∧
      Below B w (W.setCell ⟨B + 3, 0, none⟩ (.int .u16 ((v * x + y : F).nat : Int))).drew := by
  subst hv
  have n1 : ∀ k, k ≠ B + 3 → (W.setCell ⟨B + 3, 0, none⟩ (.int .u16 ((v * x + y : F).nat : Int))).drew.heap[k]? = W.heap[k]? := fun k hk => Below.heap_setCell W ⟨B + 3, 0, none⟩ _ k hk
  refine ⟨((KeepsOthers.setCell _ _ _).trans (KeepsOthers.drew _)).from _, ⟨((Below.refl B W).setCell (p := ⟨B + 3, 0, none⟩) (by show B ≤ B + 3; omega) _).drew, n1 _ (by omega)⟩, ⟨⟨?_, ?_⟩, ?_, ?_⟩, (hB.setCell (p := ⟨B + 3, 0, none⟩) (by show B ≤ B + 3; omega) _).drew⟩
  · exact World.cell?_setCell_same' _ _ _ (by rw [hc]; rfl)
  · show (W.setCell ⟨B + 3, 0, none⟩ _).frozen? _ = false
    rw [World.frozen?_setCell]; exact hf
  · exact (World.cell?_of_block (w := W) (a := ⟨B, 0, none⟩) (n1 B (by omega))).trans hx
  · exact (World.cell?_of_block (w := W) (a := ⟨B + 2, 0, none⟩) (n1 (B + 2) (by omega))).trans hp

set_option maxRecDepth 100000 in
set_option maxHeartbeats 8000000 in
theorem at_any (A : Option Addr) (len cap : Nat) (zs : List F) (x : F) (w : World) (hlen : zs.length = len) (hm : len ≤ 100000) (hrd : Rd w w.heap.size A zs) :
    Calls Try.prog 57 #[.slice A len cap, .int .u16 x.nat] w fun e W' => e = .returned (.int .u16 (pv zs x).nat) ∧ Below w.heap.size w W' := by
  have HL := Lib.hid hlen
  have HRD := Lib.hid hrd
  clear hlen hrd
  refine (callsIn_wide (n := 5)).1 ?_
  refine callsIn_of_wp_marks Try.func57 rfl trivial ?_ rfl
  simp only [Try.ntmps57, List.size_toArray, List.length_cons, List.length_nil, Nat.reduceAdd, Nat.reduceSub, Array.replicate_succ, Array.replicate_zero, List.push_toArray, List.append_toArray, List.nil_append, List.cons_append]
  gi_wp2_with (first
    | (refine ⟨trivial, ?_⟩; gi_at_call 33; refine (callsIn_wide.2 (new_any _)).mono ?_; rintro e w' ⟨rfl, rfl⟩)
    | (refine ⟨trivial, ?_⟩; gi_at_call 69; refine (back_in _ _ trivial rfl _ _ _ _).mono ?_; rintro e w' ⟨rfl, rfl⟩))
  have bV := Boxed.new (((w.alloc (.cells #[.int .u16 (x.nat : Int)] 71)).alloc (.cells #[] 89)).alloc (.cells #[.pointer (some ⟨w.heap.size + 1, 0, none⟩)] 72)) 71 (.int .u16 0)
  have bX := Boxed.new w 71 (.int .u16 (x.nat : Int))
  have bF := Boxed.new ((w.alloc (.cells #[.int .u16 (x.nat : Int)] 71)).alloc (.cells #[] 89)) 72 (.pointer (some ⟨w.heap.size + 1, 0, none⟩))
  have bN := Boxed.new ((((w.alloc (.cells #[.int .u16 (x.nat : Int)] 71)).alloc (.cells #[] 89)).alloc (.cells #[.pointer (some ⟨w.heap.size + 1, 0, none⟩)] 72)).alloc (.cells #[.int .u16 0] 71)) 58 (.slice A len cap)
  simp only [World.size_alloc] at bV bX bF bN
  have hB0 : Below w.heap.size w (((((w.alloc (.cells #[.int .u16 (x.nat : Int)] 71)).alloc (.cells #[] 89)).alloc (.cells #[.pointer (some ⟨w.heap.size + 1, 0, none⟩)] 72)).alloc (.cells #[.int .u16 0] 71)).alloc (.cells #[.slice A len cap] 58)) :=
    (((((Below.refl _ w).alloc (Nat.le_refl _) _).alloc (by simp) _).alloc (by simp; omega) _).alloc (by simp; omega) _).alloc (by simp; omega) _
  obtain ⟨w0, hw0⟩ : ∃ w0, w0 = (((((w.alloc (.cells #[.int .u16 (x.nat : Int)] 71)).alloc (.cells #[] 89)).alloc (.cells #[.pointer (some ⟨w.heap.size + 1, 0, none⟩)] 72)).alloc (.cells #[.int .u16 0] 71)).alloc (.cells #[.slice A len cap] 58)) := ⟨_, rfl⟩
  have hsz : w0.heap.size = w.heap.size + 5 := by rw [hw0]; simp
  have bV2 := bV.alloc (.cells #[.slice A len cap] 58)
  have bX2 := (((bX.alloc (.cells #[] 89)).alloc (.cells #[.pointer (some ⟨w.heap.size + 1, 0, none⟩)] 72)).alloc (.cells #[.int .u16 0] 71)).alloc (.cells #[.slice A len cap] 58)
  have bF2 := (bF.alloc (.cells #[.int .u16 0] 71)).alloc (.cells #[.slice A len cap] 58)
  clear bV bX bF
  rw [← hw0] at bV2 bX2 bF2 bN hB0 ⊢
  clear hw0
  refine wpIn_rangeFunc_ownG rfl (by omega) (gf := 75) (lb := #[.pointer (some ⟨w.heap.size + 4, 0, none⟩)]) rfl trivial (enters_of Try.func75 (by kernel_rfl) rfl)
    (back_stops Fence.wide _ trivial rfl (by omega) (w.heap.size + 4) w.heap.size len cap A zs HL.out hm w0 (by omega) (by omega) bN.cell (HRD.out.below hB0)) kpB_t (kpB_b (by omega) (by omega)) (Below.refl _ _) (fun _ => rfl)
    (fun pre W => ((W.cell? ⟨w.heap.size + 3, 0, none⟩ = some (.int .u16 ((pvB x pre).nat : Int)) ∧ W.frozen? ⟨w.heap.size + 3, 0, none⟩ = false) ∧ W.cell? ⟨w.heap.size, 0, none⟩ = some (.int .u16 (x.nat : Int)) ∧ W.cell? ⟨w.heap.size + 2, 0, none⟩ = some (.pointer (some ⟨w.heap.size + 1, 0, none⟩))) ∧ Below w.heap.size w W)
    (fun _ _ _ => False)
    (OwnFrom.and (Own.from (fun s A B row hs hg hr => ⟨⟨cell_kept hs.1.1 hg hr, (frozen_kept hs.1.1 hg hr).trans hs.1.2⟩, cell_kept hs.2.1 hg hr, cell_kept hs.2.2 hg hr⟩) _) (ownFrom_below (Nat.le_refl _) (by omega)))
    (fun _ _ _ _ _ hs _ _ => hs)
    ⟨⟨⟨bV2.cell, bV2.frozen⟩, bX2.cell, bF2.cell⟩, hB0⟩
    (fun p => { tmps := #[.slice A len cap, .int .u16 (x.nat : Int), undef, .pointer (some ⟨w.heap.size, 0, none⟩), .int .u16 0, .pointer (some ⟨w.heap.size + 1 + 1, 0, none⟩), .pointer (some ⟨w.heap.size + 1 + 1 + 1, 0, none⟩), undef, .int .u16 (p.2.nat : Int), .pointer (some ⟨w.heap.size + 1, 0, none⟩), .slice A len cap, .func (.func 75) #[] #[.pointer (some ⟨w.heap.size + 1 + 1 + 1 + 1, 0, none⟩)], .int .i64 (p.1 : Int), .int .u16 (p.2.nat : Int), undef, undef, undef, undef, undef, undef, undef, undef], defers := [] }) ?assign ?body ?done ?stop
  case assign =>
    intro l x W K hK
    simp only [encB]
    gi_wp2
    exact hK
  case body =>
    rintro l pre p W ⟨⟨⟨hc, hf⟩, hx, hp⟩, hB⟩ _
    have hmx : Try.prog.follows .mixedOrders = true := by kernel_rfl
    have HV := Lib.hid (pvB_snoc x pre p)
    generalize pvB x pre = v at hc HV
    clear bN bV2 bX2 bF2 hB0 HL HRD
    gi_wp2
    gi_region_with_o (first
      | (refine ⟨trivial, ?_⟩; gi_at_call 36; refine (CallsIn.inRound l (callsIn_wide.2 (mul_any _ _ _ v x _ rfl rfl))).mono ?_; rintro e w' ⟨rfl, rfl⟩)
      | (refine ⟨trivial, ?_⟩; gi_at_call 35; refine (CallsIn.inRound l (callsIn_wide.2 (add_any _ _ _ (v * x) p.2 _ rfl rfl))).mono ?_; rintro e w' ⟨rfl, rfl⟩))
    all_goals gi_wp2
    all_goals exact round_end hB hc hf hx hp HV.out
  case done =>
    rintro D ys W hD rfl ⟨⟨⟨hc, _⟩, _⟩, hB⟩ hK
    gi_wp2
    refine ⟨by simp, .inl ⟨_, _, rfl, run_takeDeferred hK, ?_⟩⟩
    have hl := HL.out
    subst hl
    exact ⟨_, results_tmp rfl _ _ _, by rw [← pvB_all]; rfl, hB.trans (belowK_b (w := w) (Nat.le_refl _) W D _ _ (by omega) hK rfl rfl)⟩
  case stop =>
    rintro D c pre W _ _ h _
    exact h.elim
end Go.Proofs.Ythejbmjleohlfaa
