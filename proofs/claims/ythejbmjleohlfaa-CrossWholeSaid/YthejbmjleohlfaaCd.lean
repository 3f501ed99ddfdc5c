/- The walks of a table's making, of its filling, and of its texts. -/
import Derived.Test.YthejbmjleohlfaaCc
import Derived.Test.YthejbmjleohlfaaTk
import Derived.RegionTactic
import Derived.StillTailTactics
namespace Go.Proofs.Ythejbmjleohlfaa
set_option linter.unusedVariables false
open Go.RowKit

set_option maxRecDepth 100000 in
theorem wpO_mkV {T E : TypeId} {z : Value} {bytes : Nat} (el : El T E z bytes) {o : Oper} {a : Act} {K : Act → World → Prop} {Q : Exit → Act → World → Prop} (w : World) (l c : Operand) (hop : o.op = Op.makeSlice T l c)
    (B : Nat) (L C : Int) (n : Nat) (hl : a.eval l = .int .i64 L) (hc : a.eval c = .int .i64 C) (hL : L = (n : Int)) (hC : C = (n : Int)) (b2 : n ≤ 100000000) (b4 : B ≤ w.heap.size)
    (hK : ∀ w', OwnV E w' B (some ⟨w.heap.size, 0, none⟩) n n (List.replicate n z) → w.grownBy w' none → K (a.put o.dst (.slice (some ⟨w.heap.size, 0, none⟩) n n)) w') : Oper.wp Try.prog o a w K Q := by
  obtain ⟨i0, hi0, hz0, hz1, hz2⟩ := info_parts el.info
  have hbd := el.bd
  obtain ⟨w', hrun, r1, r2⟩ := run_make_full (P := Try.prog) w B T E i0 z 1 el.under hi0 hz0 hz1 .i64 .i64 n (by rw [hz2]; exact Nat.le_trans (Nat.mul_le_mul hbd b2) (by decide)) (by unfold maxLen; omega) b4
  have e : (madeCells z.cells (n * 1)).toList = List.replicate n z := by rw [el.zc, toList_madeCells_one, Nat.mul_one]
  rw [e] at r1
  subst hL
  subst hC
  unfold Oper.wp
  simp [execOp, hop, hl, hc, hrun, Result.andThen]
  exact hK _ ⟨List.length_replicate, r1⟩ r2

/-- The rows that are there: those of the first i volumes, and the first r of the next one. -/
def flI (i r : Nat) : Nat → Nat → Bool := fun j s => decide (j < i ∨ (j = i ∧ s < r))
theorem TabP.flc {w : World} {B g c n D S p : Nat} {fl fl' : Nat → Nat → Bool} {hv : Nat → Nat × Nat} {hr : Nat → Nat → Nat × Nat} {f : Nat → Nat → Nat → UInt8} (m : TabP w B g c n D S p fl hv hr f) (h : ∀ i r, i < p → r < D → fl i r = fl' i r) : TabP w B g c n D S p fl' hv hr f :=
  ⟨m.top, fun i hi => by rw [range_congr (G := fun r => if fl i r = true then rowV S hr i r else nilV) (fun r hrr => by rw [h i r hi hrr])]; exact m.mid i hi, fun i r hi hrr hf => m.row i r hi hrr (by rw [h i r hi hrr]; exact hf), m.injv,
    fun i r j s hi hrr h1 hj hs h2 e => m.injr i r j s hi hrr (by rw [h i r hi hrr]; exact h1) hj hs (by rw [h j s hj hs]; exact h2) e⟩

set_option maxRecDepth 100000 in
set_option maxHeartbeats 4000000 in
theorem made_any (D S : Nat) (R M : Int) (n : Nat) (w : World) (hD : D ≤ 64) (hS : S ≤ 512) (hn : n ≤ 200) :
    Calls Try.prog 20 #[shV D R S M, .int .i64 n] w fun e w' => ∃ (g c : Nat) (hv : Nat → Nat × Nat) (hr : Nat → Nat → Nat × Nat), e = .returned (.slice (some ⟨g, 0, none⟩) n c) ∧ TabP w' w.heap.size g c n D S n (fun _ _ => true) hv hr (fun _ _ _ => 0) ∧ Below w.heap.size w w' := by
  have SH := Lib.hid (ShapeAt.new w D R S M)
  have BW := Lib.hid (balloc w (shO D R S M))
  have hS9 : decide ((S : Int) < 0) = false := decide_eq_false (by omega)
  unfold shO at SH BW
  unfold shV
  go_enter Try.func20, Try.ntmps20
  go_wp2_with (at_make; refine wpList_mkV tab_el _ rfl _ _ rfl (w.alloc (.cells #[.int .i64 D, .int .i64 R, .int .i64 S, .int .i64 M] 31)).heap.size _ _ n rfl rfl rfl rfl (by omega) (Nat.le_refl _) ?_; intro w2 hown2 hg2)
  obtain ⟨w1, hw1⟩ : ∃ w1, w1 = w.alloc (.cells #[.int .i64 D, .int .i64 R, .int .i64 S, .int .i64 M] 31) := ⟨_, rfl⟩
  have hsz1 : w1.heap.size = w.heap.size + 1 := by rw [hw1]; simp
  rw [← hw1] at SH BW hown2 hg2
  try simp only [← hw1]
  rw [show (⟨w1.heap.size, 0, none⟩ : Addr) = ⟨w.heap.size + 1, 0, none⟩ by rw [hsz1]] at hown2
  have T2 := Lib.hid (TabP.start (D := D) (S := S) (hv := fun _ => (0, 0)) (hr := fun _ _ => (0, 0)) (f := fun _ _ _ => 0) hown2)
  have B2 := Lib.hid ((Below.refl w1.heap.size w1).grown hg2 (Nat.le_refl _) (fun k e => by cases e))
  obtain ⟨g, hg⟩ : ∃ g, g = w.heap.size + 1 := ⟨_, rfl⟩
  rw [← hg] at T2 ⊢
  have hgB : w1.heap.size ≤ g := by omega
  clear hw1 hown2 hg2 hg
  go_loopw [12] (fun i wr => ∃ (k : Nat) (hv : Nat → Nat × Nat) (hr : Nat → Nat → Nat × Nat), k ≤ n ∧ i = .int .i64 k ∧ TabP wr w1.heap.size g n n D S k (flI k 0) hv hr (fun _ _ _ => 0) ∧ Below w1.heap.size w1 wr) (fun i _ => n - (intOf i).toNat)
  case atStart => exact ⟨0, _, _, Nat.zero_le _, rfl, T2.out.flc (fun i r hi _ => absurd hi (by omega)), B2.out⟩
  case round =>
    obtain ⟨k, hv, hr, hk, rfl, htab, hbel⟩ := hrel
    have HT := Lib.hid htab
    have HB := Lib.hid hbel
    have hs2 := hbel.size
    clear htab T2 B2
    by_cases hkn : k < n
    · have SHR := Lib.hid (SH.out.below (by omega) hbel)
      have c0 := SHR.out.d
      clear hbel
      go_wp2_with (at_make; refine wpList_mkV vol_el _ rfl _ _ rfl wr.heap.size _ _ D rfl rfl rfl rfl (by omega) (Nat.le_refl _) ?_; intro w3 hown3 hg3; have fz := (HT.out.grown hg3).top.frozen k; have ex := (HT.out.grown hg3).top.cell (range_get (fun i => if i < k then volV D hv i else nilV) hkn); rw [if_neg (Nat.lt_irrefl k)] at ex; unfold nilV at ex)
      have HT4 := Lib.hid ((HT.out.vol (fun r => decide_eq_false (by omega)) hg3 (Nat.le_refl _) hs2 hown3).flc (fl' := flI k 0) (fun _ _ _ _ => rfl))
      have HB4 := Lib.hid (((HB.out.grown hg3 hs2 (fun k e => by cases e))).setCell (p := ⟨g, k, none⟩) hgB (.slice (some ⟨wr.heap.size, 0, none⟩) D D))
      obtain ⟨w4, hw4⟩ : ∃ w4, w4 = w3.setCell ⟨g, k, none⟩ (.slice (some ⟨wr.heap.size, 0, none⟩) D D) := ⟨_, rfl⟩
      have hvk : upd1 hv k (wr.heap.size, D) k = (wr.heap.size, D) := if_pos rfl
      obtain ⟨G, hG⟩ : ∃ G, G = wr.heap.size := ⟨_, rfl⟩
      rw [← hw4] at HT4 HB4
      try rw [← hw4]
      rw [← hG] at HT4 hvk
      try rw [← hG]
      clear hw4 fz ex hown3 hg3 HT HB SHR c0 hG hs2
      generalize upd1 hv k (G, D) = hv2 at HT4 hvk
      go_loopw [26] (fun i wr => ∃ (r : Nat) (hr : Nat → Nat → Nat × Nat), r ≤ D ∧ i = .int .i64 r ∧ TabP wr w1.heap.size g n n D S (k + 1) (flI k r) hv2 hr (fun _ _ _ => 0) ∧ Below w1.heap.size w1 wr) (fun i _ => D - (intOf i).toNat)
      case atStart => exact ⟨0, _, Nat.zero_le _, rfl, HT4.out, HB4.out⟩
      case round =>
        obtain ⟨r, hr2, hrD, rfl, htab, hbel⟩ := hrel
        have HT := Lib.hid htab
        have HB := Lib.hid hbel
        have hs2 := hbel.size
        clear htab HT4 HB4
        by_cases hrn : r < D
        · have ehead := HT.out.head hkn (Nat.lt_succ_self k)
          rw [hvk] at ehead
          have hGg : G ≠ g := by
            have := HT.out.mid k (Nat.lt_succ_self k)
            rw [hvk] at this
            exact ownV_apart (by decide) this HT.out.top
          have hGB : w1.heap.size ≤ G := by
            have := (HT.out.mid k (Nat.lt_succ_self k)).blkS
            rw [hvk] at this
            exact this.1
          have q1 : (0 : Int) ≤ (k : Int) := by omega
          have q2 : (k : Int) < (n : Int) := by omega
          have q3 : (0 : Int) ≤ (r : Int) := by omega
          have q4 : (r : Int) < (D : Int) := by omega
          clear hbel
          go_wp2_with fail
          refine wp_region_held_drew (S := fun w' => Below w1.heap.size w1 w' ∧ w'.cell? ⟨g, k, none⟩ = some (.slice (some ⟨G, 0, none⟩) D D) ∧ True) (by kernel_rfl) ⟨HB.out.drew, ehead, trivial⟩ (fun hHeld => ?_)
          refine take_in (v := ?_) 29 0 rfl rfl (by kernel_rfl) (by kernel_rfl) (by kernel_rfl) (fun _ _ _ h => h) (by rfl) ?_ (by assumption) ?_
          rotate_left 1
          · (intro w hSw; go_simp; (try with_reducible rfl))
          (try simp only [List.setIfInBounds_toArray, List.set_cons_zero, List.set_cons_succ])
          refine take_in (v := ?_) 30 1 rfl rfl (by kernel_rfl) (by kernel_rfl) (by kernel_rfl) (fun _ _ _ h => h) (by rfl) ?_ (by assumption) ?_
          rotate_left 1
          · (intro w hSw; go_simp; (try with_reducible rfl))
          (try simp only [List.setIfInBounds_toArray, List.set_cons_zero, List.set_cons_succ])
          refine take_in (v := ?_) 31 2 rfl rfl (by kernel_rfl) (by kernel_rfl) (by kernel_rfl) (fun _ _ _ h => h) (by rfl) ?_ (by assumption) ?_
          rotate_left 1
          · (intro w hSw; go_simp; (try with_reducible rfl))
          (try simp only [List.setIfInBounds_toArray, List.set_cons_zero, List.set_cons_succ])
          refine take_in (v := ?_) 32 3 rfl rfl (by kernel_rfl) (by kernel_rfl) (by kernel_rfl) (fun _ _ _ h => h) (by rfl) ?_ (by assumption) ?_
          rotate_left 1
          · (intro w hSw; have z0 := hSw.2.1; go_simp; (try with_reducible rfl))
          (try simp only [List.setIfInBounds_toArray, List.set_cons_zero, List.set_cons_succ])
          refine take_in (v := ?_) 33 4 rfl rfl (by kernel_rfl) (by kernel_rfl) (by kernel_rfl) (fun _ _ _ h => h) (by rfl) ?_ (by assumption) ?_
          rotate_left 1
          · (intro w hSw; go_simp; (try with_reducible rfl))
          (try simp only [List.setIfInBounds_toArray, List.set_cons_zero, List.set_cons_succ])
          refine take_in (v := ?_) 34 5 rfl rfl (by kernel_rfl) (by kernel_rfl) (by kernel_rfl) (fun _ _ _ h => h) (by rfl) ?_ (by assumption) ?_
          rotate_left 1
          · (intro w hSw; go_simp; (try with_reducible rfl))
          (try simp only [List.setIfInBounds_toArray, List.set_cons_zero, List.set_cons_succ])
          refine take_in (v := ?_) 35 6 rfl rfl (by kernel_rfl) (by kernel_rfl) (by kernel_rfl) (fun _ _ _ h => h) (by rfl) ?_ (by assumption) ?_
          rotate_left 1
          · (intro w hSw; have z1 := (SH.out.below (by omega) hSw.1).s; go_simp; (try with_reducible rfl))
          (try simp only [List.setIfInBounds_toArray, List.set_cons_zero, List.set_cons_succ])
          refine wpAnyH_ready (rs := [7]) (by kernel_rfl) (by simp) ?_
          refine AllReadyH.cons rfl (fun K hK => ?_) AllReadyH.nil
          rw [if_pos (by rfl)]
          refine wpO_mkV byte_el _ _ _ rfl wr.heap.size _ _ S rfl rfl rfl rfl (by omega) (Nat.le_refl _) ?_
          intro w5 hown5 hg5
          have HT5 := HT.out.drew.grown hg5
          have fz := (HT5.mid k (Nat.lt_succ_self k)).frozen r
          have ex := (HT5.mid k (Nat.lt_succ_self k)).cell (range_get (fun s => if flI k r k s = true then rowV S hr2 k s else nilV) hrn)
          rw [if_neg (by unfold flI; simp)] at ex
          rw [hvk] at fz ex
          unfold nilV at ex
          refine hK.out _ _ ⟨HB.out.drew.grown hg5 hs2 (fun k e => by cases e), by have := HT5.head hkn (Nat.lt_succ_self k); rw [hvk] at this; exact this, trivial⟩ (fun hHeld => ?_)
          clear hK K
          (try simp only [List.setIfInBounds_toArray, List.set_cons_zero, List.set_cons_succ])
          refine take_in (v := ?_) 37 8 rfl rfl (by kernel_rfl) (by kernel_rfl) (by kernel_rfl) (fun _ _ _ h => h) (by rfl) ?_ (by assumption) ?_
          rotate_left 1
          · (intro w hSw; go_simp; (try with_reducible rfl))
          (try simp only [List.setIfInBounds_toArray, List.set_cons_zero, List.set_cons_succ])
          refine wpAnyH_ready (rs := [9]) (by kernel_rfl) (by simp) ?_
          refine AllReadyH.cons rfl (fun K hK => ?_) AllReadyH.nil
          go_simp
          refine hK.out _ _ ⟨hHeld.1.setCell (p := ⟨G, r, none⟩) hGB _, by rw [World.cell?_of_block (w := w5) (Below.heap_setCell w5 ⟨G, r, none⟩ _ g (fun e => hGg e.symm))]; exact hHeld.2.1, trivial⟩ (fun hHeld => ?_)
          clear hK K
          (try simp only [List.setIfInBounds_toArray, List.set_cons_zero, List.set_cons_succ])
          refine wpAnyH_done (by kernel_rfl) ?_ _
          have HT6 := Lib.hid (HT.out.drew.addRow (i := k) (r := r) (fl' := flI k (r + 1)) (Nat.lt_succ_self k) hrn (by unfold flI; simp) (fun j s => by unfold flI; simp only [decide_eq_true_eq]; omega) hg5 (Nat.le_refl _) hs2 hown5 (fun _ => rfl))
          rw [hvk] at HT6
          have HB6 := Lib.hid hHeld.1
          clear hHeld HT5 fz ex hown5 hg5
          go_wp2_with fail
          go_roundw
          case rel => exact ⟨r + 1, _, by omega, by go_num, HT6.out, HB6.out⟩
          case measure => simp only [intOf]; omega
        · obtain rfl : r = D := by omega
          have HT5 := Lib.hid (HT.out.flc (fl' := flI (k + 1) 0) (fun i s hi hs => decide_eq_decide.2 (by omega)))
          go_wp2_with fail
          go_roundw
          case rel => exact ⟨k + 1, _, _, by omega, by go_num, HT5.out, hbel⟩
          case measure => simp only [intOf]; omega
    · obtain rfl : k = n := by omega
      have HTF := Lib.hid (HT.out.flc (fl' := fun _ _ => true) (fun i r hi _ => decide_eq_true (.inl hi)))
      go_wp2_with fail
      go_ret
      exact ⟨g, k, hv, hr, rfl, HTF.out.less (by omega), BW.out.trans (HB.out.mono (by omega))⟩

/-- The bytes of a symbol. -/
def hib (x : F) : UInt8 := UInt8.ofNat (x.nat / 256)
def lob (x : F) : UInt8 := UInt8.ofNat (x.nat % 256)
theorem far_cell {w : World} {p a : Addr} {v : Value} (h : a.block ≠ p.block) : (w.setCell p v).drew.cell? a = w.cell? a := World.cell?_of_block (Below.heap_setCell w p v _ h)
theorem hib_wrap (x : F) : IntKind.u8.wrap ((x.nat : Int) / 256) = ((hib x).toNat : Int) := by
  have h := x.nat_lt
  have e : (hib x).toNat = x.nat / 256 % 256 := UInt8.toNat_ofNat'
  rw [IntKind.wrap_u8, e]
  omega
theorem lob_wrap (x : F) : IntKind.u8.wrap (x.nat : Int) = ((lob x).toNat : Int) := by
  have e : (lob x).toNat = x.nat % 256 % 256 := UInt8.toNat_ofNat'
  rw [IntKind.wrap_u8, e]
  omega
/-- A slice of symbols, and of what kind its block is. -/
def RdU (w : World) (A : Option Addr) (l : List F) : Prop :=
  0 < l.length → ∃ b off, A = some ⟨b, off, none⟩ ∧ (∃ cur, w.heap[b]? = some (.cells cur 71 (0, 0))) ∧ ∀ j, j < l.length → w.cell? ⟨b, off + j, none⟩ = some (.int .u16 ((l.getD j 0).nat : Int))
theorem Own.rdU {w : World} {B n c : Nat} {A : Option Addr} {l : List F} (h : Own w B A n c l) : RdU w A l := fun h0 => by
  obtain ⟨g, rfl, _, _⟩ := h.form (by rw [← h.len]; exact h0)
  exact ⟨g, 0, rfl, h.toV.heapAt, fun j hj => by rw [Nat.zero_add]; exact h.cell (by rw [← h.len]; exact hj)⟩
theorem Mine.rdU {w : World} {B : Nat} {A : Option Addr} {l : List F} (h : Mine w B A l) : RdU w A l := fun h0 => by
  obtain ⟨g, off, N, row, rfl, hown, hle, hj⟩ := h h0
  exact ⟨g, off, rfl, hown.toV.heapAt, fun j hjl => by rw [hown.cell (j := off + j) (by omega), hj j hjl]⟩
/-- A table, the first symbols of a word put. -/
def putTo (f : Nat → Nat → Nat → UInt8) (row a : Nat) (word : List F) : Nat → Nat → Nat → Nat → UInt8
  | 0 => f
  | i + 1 => upd3 (upd3 (putTo f row a word i) i row a (hib (word.getD i 0))) i row (a + 1) (lob (word.getD i 0))

set_option maxRecDepth 100000 in
set_option maxHeartbeats 4000000 in
theorem put_any (B g c n D S row a : Nat) (hv : Nat → Nat × Nat) (hr : Nat → Nat → Nat × Nat) (f : Nat → Nat → Nat → UInt8) (A : Option Addr) (m cw : Nat) (word : List F) (w : World) (ht : TabP w B g c n D S n (fun _ _ => true) hv hr f) (hl : word.length = m) (hrd : RdU w A word)
    (hm : m ≤ n) (hn : n ≤ 200) (hrow : row < D) (ha : a + 1 < S) (hS : S ≤ 512) (hB : B ≤ w.heap.size) :
    Calls Try.prog 23 #[.slice (some ⟨g, 0, none⟩) n c, .agg #[.int .i64 row, .int .i64 a], .slice A m cw] w fun e w' => (∃ v, e = .returned v) ∧ TabP w' B g c n D S n (fun _ _ => true) hv hr (putTo f row a word m) ∧ Below B w w' ∧
      (∀ k, k < w.heap.size → (∀ i, i < n → k ≠ (hr i row).1) → w'.heap[k]? = w.heap[k]?) := by
  have HT0 := Lib.hid ht
  have HL := Lib.hid hl
  have HRD := Lib.hid hrd
  clear ht hl hrd
  go_enter Try.func23, Try.ntmps23
  have hlt : ∀ i, i < n → (hr i row).1 < w.heap.size ∧ B ≤ (hr i row).1 := fun i hi => by have := (HT0.out.row i row hi hrow rfl).blkS; omega
  have HLT := Lib.hid hlt
  clear hlt
  go_wp2_with fail
  obtain ⟨Pb, hPb⟩ : ∃ Pb, Pb = w.heap.size := ⟨_, rfl⟩
  obtain ⟨w1, hw1⟩ : ∃ w1, w1 = w.alloc (.cells #[.int .i64 row, .int .i64 a] 57) := ⟨_, rfl⟩
  have hp0 : w1.cell? ⟨Pb, 0, none⟩ = some (.int .i64 row) := by rw [hw1, hPb]; go_cell
  have hp1 : w1.cell? ⟨Pb, 1, none⟩ = some (.int .i64 a) := by rw [hw1, hPb]; go_cell
  have HK1 := Lib.hid (show ∀ k, k < w.heap.size → w1.heap[k]? = w.heap[k]? from fun k hk => by rw [hw1]; exact Below.heap_alloc w _ k hk)
  have HT1 := Lib.hid (show TabP w1 B g c n D S n (fun _ _ => true) hv hr f by rw [hw1]; exact HT0.out.below (balloc w _))
  have HB1 := Lib.hid (show Below B w w1 by rw [hw1]; exact (Below.refl B w).alloc hB _)
  rw [← hPb, ← hw1]
  have HPB := Lib.hid hPb
  clear hPb hw1
  go_loopw [10] (fun i wr => ∃ k : Nat, k ≤ m ∧ i = .int .i64 k ∧ TabP wr B g c n D S n (fun _ _ => true) hv hr (putTo f row a word k) ∧ Below B w wr ∧ (wr.cell? ⟨Pb, 0, none⟩ = some (.int .i64 row) ∧ wr.cell? ⟨Pb, 1, none⟩ = some (.int .i64 a)) ∧
    Hid (∀ k, k < w.heap.size → (∀ i, i < n → k ≠ (hr i row).1) → wr.heap[k]? = w.heap[k]?)) (fun i _ => m - (intOf i).toNat)
  case atStart => exact ⟨0, Nat.zero_le _, rfl, HT1.out, HB1.out, ⟨hp0, hp1⟩, Lib.hid fun k hk _ => HK1.out k hk⟩
  case round =>
    obtain ⟨k, hk, rfl, htab, hbel, ⟨hp0, hp1⟩, HK⟩ := hrel
    have HT := Lib.hid htab
    have HB := Lib.hid hbel
    clear htab HT1 HB1 HK1
    by_cases hkm : k < m
    · have hkn : k < n := by omega
      obtain ⟨b, off, rfl, ⟨cur, hcur⟩, hc⟩ := HRD.out (by rw [HL.out]; omega)
      have hbs : b < w.heap.size := (Array.getElem?_eq_some_iff.1 hcur).1
      have hbne : ∀ i, i < n → b ≠ (hr i row).1 := fun i hi e => by
        subst e
        obtain ⟨cur2, h2⟩ := (HT0.out.row i row hi hrow rfl).heapAt
        rw [h2] at hcur
        injection hcur with hcur
        injection hcur with _ hcur
        cases hcur
      have cw1 := (World.cell?_of_block (w := w) (a := ⟨b, off + k, none⟩) (HK.out b hbs hbne)).trans (hc k (by rw [HL.out]; exact hkm))
      have HPS := Lib.hid (show putTo f row a word (k + 1) = upd3 (upd3 (putTo f row a word k) k row a (hib (word.getD k 0))) k row (a + 1) (lob (word.getD k 0)) from rfl)
      have HTa := Lib.hid (HT.out.store (i := k) (r := row) (a := a) hkn hrow rfl (hib (word.getD k 0)) rfl)
      have HTb := Lib.hid (HTa.out.store (i := k) (r := row) (a := a + 1) hkn hrow rfl (lob (word.getD k 0)) rfl)
      have e1 := HT.out.head hkn hkn
      have e2 := HT.out.hrow (i := k) (r := row) hkn hrow rfl
      have fz1 := (HT.out.row k row hkn hrow rfl).frozen a
      have ex1 := HT.out.cell (i := k) (r := row) (a := a) hkn hrow rfl (by omega)
      have fz2 := (HTa.out.row k row hkn hrow rfl).frozen (a + 1)
      have ex2 := HTa.out.cell (i := k) (r := row) (a := a + 1) hkn hrow rfl ha
      have hne1 : (hr k row).1 ≠ g := ownV_apart (by decide) (HT.out.row k row hkn hrow rfl) HT.out.top
      have hne2 : (hr k row).1 ≠ (hv k).1 := ownV_apart (by decide) (HT.out.row k row hkn hrow rfl) (HT.out.mid k hkn)
      have hGB := (HLT.out k hkn).2
      have hGP : (hr k row).1 ≠ Pb := by have := (HLT.out k hkn).1; rw [HPB.out]; omega
      have HKB := Lib.hid (show ∀ j, j < w.heap.size → (∀ i, i < n → j ≠ (hr i row).1) → j ≠ (hr k row).1 from fun j _ h => h k hkn)
      generalize putTo f row a word k = fk at HT HTa HTb HPS ex1 ex2
      generalize word.getD k 0 = x at cw1 HPS HTa HTb fz2 ex2
      generalize fk k row a = y1 at ex1
      generalize upd3 fk k row a (hib x) k row (a + 1) = y2 at ex2
      generalize hGr : (hr k row).1 = Gr at e2 fz1 ex1 fz2 ex2 hne1 hne2 hGB hGP HKB HTa HTb
      generalize (hr k row).2 = cr at e2
      generalize (hv k).1 = Gv at e1 e2 hne2
      generalize (hv k).2 = cv at e1
      have q1 : (0 : Int) ≤ (k : Int) := by omega
      have q2 : (k : Int) < (n : Int) := by omega
      have q3 : (k : Int) < (m : Int) := by omega
      have q4 : (0 : Int) ≤ (row : Int) := by omega
      have q5 : (row : Int) < (D : Int) := by omega
      have q6 : (0 : Int) ≤ (a : Int) := by omega
      have q7 : (a : Int) + 1 < (S : Int) := by omega
      have q8 : (a : Int) < (S : Int) := by omega
      have q9 : (0 : Int) ≤ (a : Int) + 1 := by omega
      have q10 : ((a : Int) + 1).toNat = a + 1 := by omega
      have q11 : IntKind.i64.wrap ((a : Int) + 1) = (a : Int) + 1 := IntWalk.i64_in _ ⟨by omega, by omega⟩
      have v1 := hib_wrap x
      have v2 := lob_wrap x
      generalize hib x = xh at v1 HPS HTa HTb fz2 ex2
      generalize lob x = xl at v2 HPS HTb
      clear hc hbel hGr hbne hcur HT0
      go_wp2_with fail
      refine wp_region_held_drew (S := fun w' => w'.cell? ⟨g, k, none⟩ = some (.slice (some ⟨Gv, 0, none⟩) D cv) ∧ w'.cell? ⟨Gv, row, none⟩ = some (.slice (some ⟨Gr, 0, none⟩) S cr) ∧ w'.cell? ⟨Pb, 0, none⟩ = some (.int .i64 row) ∧ w'.cell? ⟨Pb, 1, none⟩ = some (.int .i64 a)) (by kernel_rfl) ⟨e1, e2, hp0, hp1⟩ (fun hHeld => ?_)
      refine take_in (v := ?_) 15 0 rfl rfl (by kernel_rfl) (by kernel_rfl) (by kernel_rfl) (fun _ _ _ h => h) (by rfl) ?_ (by assumption) ?_
      rotate_left 1
      · (intro w hSw; go_simp; (try with_reducible rfl))
      (try simp only [List.setIfInBounds_toArray, List.set_cons_zero, List.set_cons_succ])
      refine take_in (v := ?_) 16 1 rfl rfl (by kernel_rfl) (by kernel_rfl) (by kernel_rfl) (fun _ _ _ h => h) (by rfl) ?_ (by assumption) ?_
      rotate_left 1
      · (intro w hSw; go_simp; (try with_reducible rfl))
      (try simp only [List.setIfInBounds_toArray, List.set_cons_zero, List.set_cons_succ])
      refine take_in (v := ?_) 17 2 rfl rfl (by kernel_rfl) (by kernel_rfl) (by kernel_rfl) (fun _ _ _ h => h) (by rfl) ?_ (by assumption) ?_
      rotate_left 1
      · (intro w hSw; go_simp; (try with_reducible rfl))
      (try simp only [List.setIfInBounds_toArray, List.set_cons_zero, List.set_cons_succ])
      refine take_in (v := ?_) 18 3 rfl rfl (by kernel_rfl) (by kernel_rfl) (by kernel_rfl) (fun _ _ _ h => h) (by rfl) ?_ (by assumption) ?_
      rotate_left 1
      · (intro w hSw; obtain ⟨z1, z2, z3, z4⟩ := hSw; go_simp; (try with_reducible rfl))
      (try simp only [List.setIfInBounds_toArray, List.set_cons_zero, List.set_cons_succ])
      refine take_in (v := ?_) 19 4 rfl rfl (by kernel_rfl) (by kernel_rfl) (by kernel_rfl) (fun _ _ _ h => h) (by rfl) ?_ (by assumption) ?_
      rotate_left 1
      · (intro w hSw; go_simp; (try with_reducible rfl))
      (try simp only [List.setIfInBounds_toArray, List.set_cons_zero, List.set_cons_succ])
      refine take_in (v := ?_) 20 5 rfl rfl (by kernel_rfl) (by kernel_rfl) (by kernel_rfl) (fun _ _ _ h => h) (by rfl) ?_ (by assumption) ?_
      rotate_left 1
      · (intro w hSw; obtain ⟨z1, z2, z3, z4⟩ := hSw; go_simp; (try with_reducible rfl))
      (try simp only [List.setIfInBounds_toArray, List.set_cons_zero, List.set_cons_succ])
      refine take_in (v := ?_) 21 6 rfl rfl (by kernel_rfl) (by kernel_rfl) (by kernel_rfl) (fun _ _ _ h => h) (by rfl) ?_ (by assumption) ?_
      rotate_left 1
      · (intro w hSw; go_simp; (try with_reducible rfl))
      (try simp only [List.setIfInBounds_toArray, List.set_cons_zero, List.set_cons_succ])
      refine take_in (v := ?_) 22 7 rfl rfl (by kernel_rfl) (by kernel_rfl) (by kernel_rfl) (fun _ _ _ h => h) (by rfl) ?_ (by assumption) ?_
      rotate_left 1
      · (intro w hSw; obtain ⟨z1, z2, z3, z4⟩ := hSw; go_simp; (try with_reducible rfl))
      (try simp only [List.setIfInBounds_toArray, List.set_cons_zero, List.set_cons_succ])
      refine take_in (v := ?_) 23 8 rfl rfl (by kernel_rfl) (by kernel_rfl) (by kernel_rfl) (fun _ _ _ h => h) (by rfl) ?_ (by assumption) ?_
      rotate_left 1
      · (intro w hSw; go_simp; (try with_reducible rfl))
      (try simp only [List.setIfInBounds_toArray, List.set_cons_zero, List.set_cons_succ])
      refine take_in (v := ?_) 24 9 rfl rfl (by kernel_rfl) (by kernel_rfl) (by kernel_rfl) (fun _ _ _ h => h) (by rfl) ?_ (by assumption) ?_
      rotate_left 1
      · (intro w hSw; obtain ⟨z1, z2, z3, z4⟩ := hSw; go_simp; (try with_reducible rfl))
      (try simp only [List.setIfInBounds_toArray, List.set_cons_zero, List.set_cons_succ])
      refine take_in (v := ?_) 25 10 rfl rfl (by kernel_rfl) (by kernel_rfl) (by kernel_rfl) (fun _ _ _ h => h) (by rfl) ?_ (by assumption) ?_
      rotate_left 1
      · (intro w hSw; go_simp; (try with_reducible rfl))
      (try simp only [List.setIfInBounds_toArray, List.set_cons_zero, List.set_cons_succ])
      refine take_in (v := ?_) 26 11 rfl rfl (by kernel_rfl) (by kernel_rfl) (by kernel_rfl) (fun _ _ _ h => h) (by rfl) ?_ (by assumption) ?_
      rotate_left 1
      · (intro w hSw; go_simp; (try with_reducible rfl))
      (try simp only [List.setIfInBounds_toArray, List.set_cons_zero, List.set_cons_succ])
      refine take_in (v := ?_) 27 12 rfl rfl (by kernel_rfl) (by kernel_rfl) (by kernel_rfl) (fun _ _ _ h => h) (by rfl) ?_ (by assumption) ?_
      rotate_left 1
      · (intro w hSw; go_simp; (try with_reducible rfl))
      (try simp only [List.setIfInBounds_toArray, List.set_cons_zero, List.set_cons_succ])
      refine take_in (v := ?_) 28 13 rfl rfl (by kernel_rfl) (by kernel_rfl) (by kernel_rfl) (fun _ _ _ h => h) (by rfl) ?_ (by assumption) ?_
      rotate_left 1
      · (intro w hSw; obtain ⟨z1, z2, z3, z4⟩ := hSw; go_simp; (try with_reducible rfl))
      (try simp only [List.setIfInBounds_toArray, List.set_cons_zero, List.set_cons_succ])
      refine take_in (v := ?_) 29 14 rfl rfl (by kernel_rfl) (by kernel_rfl) (by kernel_rfl) (fun _ _ _ h => h) (by rfl) ?_ (by assumption) ?_
      rotate_left 1
      · (intro w hSw; go_simp; (try with_reducible rfl))
      (try simp only [List.setIfInBounds_toArray, List.set_cons_zero, List.set_cons_succ])
      refine take_in (v := ?_) 30 15 rfl rfl (by kernel_rfl) (by kernel_rfl) (by kernel_rfl) (fun _ _ _ h => h) (by rfl) ?_ (by assumption) ?_
      rotate_left 1
      · (intro w hSw; obtain ⟨z1, z2, z3, z4⟩ := hSw; go_simp; (try with_reducible rfl))
      (try simp only [List.setIfInBounds_toArray, List.set_cons_zero, List.set_cons_succ])
      refine take_in (v := ?_) 31 16 rfl rfl (by kernel_rfl) (by kernel_rfl) (by kernel_rfl) (fun _ _ _ h => h) (by rfl) ?_ (by assumption) ?_
      rotate_left 1
      · (intro w hSw; go_simp; (try with_reducible rfl))
      (try simp only [List.setIfInBounds_toArray, List.set_cons_zero, List.set_cons_succ])
      refine take_in (v := ?_) 32 17 rfl rfl (by kernel_rfl) (by kernel_rfl) (by kernel_rfl) (fun _ _ _ h => h) (by rfl) ?_ (by assumption) ?_
      rotate_left 1
      · (intro w hSw; obtain ⟨z1, z2, z3, z4⟩ := hSw; go_simp; (try with_reducible rfl))
      (try simp only [List.setIfInBounds_toArray, List.set_cons_zero, List.set_cons_succ])
      refine take_in (v := ?_) 33 18 rfl rfl (by kernel_rfl) (by kernel_rfl) (by kernel_rfl) (fun _ _ _ h => h) (by rfl) ?_ (by assumption) ?_
      rotate_left 1
      · (intro w hSw; go_simp; (try with_reducible rfl))
      (try simp only [List.setIfInBounds_toArray, List.set_cons_zero, List.set_cons_succ])
      refine take_in (v := ?_) 34 19 rfl rfl (by kernel_rfl) (by kernel_rfl) (by kernel_rfl) (fun _ _ _ h => h) (by rfl) ?_ (by assumption) ?_
      rotate_left 1
      · (intro w hSw; obtain ⟨z1, z2, z3, z4⟩ := hSw; go_simp; (try with_reducible rfl))
      (try simp only [List.setIfInBounds_toArray, List.set_cons_zero, List.set_cons_succ])
      refine take_in (v := ?_) 35 20 rfl rfl (by kernel_rfl) (by kernel_rfl) (by kernel_rfl) (fun _ _ _ h => h) (by rfl) ?_ (by assumption) ?_
      rotate_left 1
      · (intro w hSw; go_simp; (try with_reducible rfl))
      (try simp only [List.setIfInBounds_toArray, List.set_cons_zero, List.set_cons_succ])
      refine take_in (v := ?_) 36 21 rfl rfl (by kernel_rfl) (by kernel_rfl) (by kernel_rfl) (fun _ _ _ h => h) (by rfl) ?_ (by assumption) ?_
      rotate_left 1
      · (intro w hSw; go_simp; (try with_reducible rfl))
      (try simp only [List.setIfInBounds_toArray, List.set_cons_zero, List.set_cons_succ])
      refine take_in (v := ?_) 37 22 rfl rfl (by kernel_rfl) (by kernel_rfl) (by kernel_rfl) (fun _ _ _ h => h) (by rfl) ?_ (by assumption) ?_
      rotate_left 1
      · (intro w hSw; go_simp; (try with_reducible rfl))
      (try simp only [List.setIfInBounds_toArray, List.set_cons_zero, List.set_cons_succ])
      refine take_in (v := ?_) 38 23 rfl rfl (by kernel_rfl) (by kernel_rfl) (by kernel_rfl) (fun _ _ _ h => h) (by rfl) ?_ (by assumption) ?_
      rotate_left 1
      · (intro w hSw; go_simp; (try with_reducible rfl))
      (try simp only [List.setIfInBounds_toArray, List.set_cons_zero, List.set_cons_succ])
      refine take_in (v := ?_) 39 24 rfl rfl (by kernel_rfl) (by kernel_rfl) (by kernel_rfl) (fun _ _ _ h => h) (by rfl) ?_ (by assumption) ?_
      rotate_left 1
      · (intro w hSw; go_simp; (try with_reducible rfl))
      (try simp only [List.setIfInBounds_toArray, List.set_cons_zero, List.set_cons_succ])
      refine take_in (v := ?_) 40 25 rfl rfl (by kernel_rfl) (by kernel_rfl) (by kernel_rfl) (fun _ _ _ h => h) (by rfl) ?_ (by assumption) ?_
      rotate_left 1
      · (intro w hSw; go_simp; (try with_reducible rfl))
      (try simp only [List.setIfInBounds_toArray, List.set_cons_zero, List.set_cons_succ])
      refine take_in (v := ?_) 41 26 rfl rfl (by kernel_rfl) (by kernel_rfl) (by kernel_rfl) (fun _ _ _ h => h) (by rfl) ?_ (by assumption) ?_
      rotate_left 1
      · (intro w hSw; go_simp; (try with_reducible rfl))
      (try simp only [List.setIfInBounds_toArray, List.set_cons_zero, List.set_cons_succ])
      refine wpAnyH_ready (rs := [27]) (by kernel_rfl) (by simp) ?_
      refine AllReadyH.cons rfl (fun K hK => ?_) AllReadyH.nil
      go_simp
      refine hK.out _ _ ⟨(far_cell (fun e => hne1 e.symm)).trans hHeld.1, (far_cell (fun e => hne2 e.symm)).trans hHeld.2.1, (far_cell (fun e => hGP e.symm)).trans hHeld.2.2.1, (far_cell (fun e => hGP e.symm)).trans hHeld.2.2.2⟩ (fun hHeld => ?_)
      clear hK K
      (try simp only [List.setIfInBounds_toArray, List.set_cons_zero, List.set_cons_succ])
      refine take_in (v := ?_) 42 28 rfl rfl (by kernel_rfl) (by kernel_rfl) (by kernel_rfl) (fun _ _ _ h => h) (by rfl) ?_ (by assumption) ?_
      rotate_left 1
      · (intro w hSw; go_simp; (try with_reducible rfl))
      (try simp only [List.setIfInBounds_toArray, List.set_cons_zero, List.set_cons_succ])
      refine wpAnyH_ready (rs := [29]) (by kernel_rfl) (by simp) ?_
      refine AllReadyH.cons rfl (fun K hK => ?_) AllReadyH.nil
      go_simp
      refine hK.out _ _ ⟨(far_cell (fun e => hne1 e.symm)).trans hHeld.1, (far_cell (fun e => hne2 e.symm)).trans hHeld.2.1, (far_cell (fun e => hGP e.symm)).trans hHeld.2.2.1, (far_cell (fun e => hGP e.symm)).trans hHeld.2.2.2⟩ (fun hHeld => ?_)
      clear hK K
      (try simp only [List.setIfInBounds_toArray, List.set_cons_zero, List.set_cons_succ])
      refine wpAnyH_done (by kernel_rfl) ?_ _
      go_wp2_with fail
      go_roundw
      case rel => exact ⟨k + 1, by omega, by go_num, by rw [HPS.out]; exact HTb.out.drew, ((HB.out.setCell (p := ⟨Gr, a, none⟩) hGB _).setCell (p := ⟨Gr, a + 1, none⟩) hGB _).drew, ⟨hHeld.2.2.1, hHeld.2.2.2⟩, Lib.hid fun j hj hne => (Below.heap_setCell _ ⟨Gr, a + 1, none⟩ _ j (HKB.out j hj hne)).trans ((Below.heap_setCell wr ⟨Gr, a, none⟩ _ j (HKB.out j hj hne)).trans (HK.out j hj hne))⟩
      case measure => simp only [intOf]; omega
    · obtain rfl : k = m := by omega
      go_wp2_with fail
      go_end0
      exact ⟨⟨_, rfl⟩, HT.out, hbel, HK.out⟩
end Go.Proofs.Ythejbmjleohlfaa
