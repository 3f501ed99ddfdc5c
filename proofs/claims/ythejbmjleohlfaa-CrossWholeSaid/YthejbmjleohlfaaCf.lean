/- The walk of the words of volumes: an iterator that hands over memory of its own. -/
import Derived.Test.YthejbmjleohlfaaCe
import Derived.Test.YthejbmjleohlfaaSq
import Derived.StillTailTactics
namespace Go.Proofs.Ythejbmjleohlfaa
set_option linter.unusedVariables false
open Go.RowKit Go.Shelf

attribute [local go_sem] Oper.semAt_some

set_option maxRecDepth 100000 in
theorem wpListIn_mkV {T E : TypeId} {z : Value} {bytes : Nat} (el : El T E z bytes) {F : Fence} {nf : Nat} {ops : Array Oper} {rest : List Oper} {o : Oper} {a : Act} {Q : Exit → Act → World → Prop} (w : World)
    (hg : o.guard = none) (l c : Operand) (hop : o.op = Op.makeSlice T l c)
    (B : Nat) (L C : Int) (n : Nat) (hl : a.eval l = .int .i64 L) (hc : a.eval c = .int .i64 C) (hL : L = (n : Int)) (hC : C = (n : Int)) (b2 : n ≤ 100000000) (b4 : B ≤ w.heap.size)
    (hK : ∀ w', OwnV E w' B (some ⟨w.heap.size, 0, none⟩) n n (List.replicate n z) → w.grownBy w' none → wpListIn F nf Try.prog ops Q rest (a.put o.dst (.slice (some ⟨w.heap.size, 0, none⟩) n n)) w') :
    wpListIn F nf Try.prog ops Q (o :: rest) a w := by
  obtain ⟨i0, hi0, hz0, hz1, hz2⟩ := info_parts el.info
  have hbd := el.bd
  refine wpListIn_plain hg fun K hK' => ?_
  obtain ⟨w', hrun, r1, r2⟩ := run_make_full (P := Try.prog) w B T E i0 z 1 el.under hi0 hz0 hz1 .i64 .i64 n (by rw [hz2]; exact Nat.le_trans (Nat.mul_le_mul hbd b2) (by decide)) (by unfold maxLen; omega) b4
  have e : (madeCells z.cells (n * 1)).toList = List.replicate n z := by rw [el.zc, toList_madeCells_one, Nat.mul_one]
  rw [e] at r1
  subst hL
  subst hC
  unfold Oper.wpIn
  refine ⟨?_, ?_⟩
  · simp [Oper.about, hop]
  · rw [Oper.semAt_plain F _ _ (by rw [hop]; intro c hc'; cases hc')]
    simp [execOp, hop, hl, hc, hrun, Result.andThen]
    exact hK' _ _ (hK w' ⟨List.length_replicate, r1⟩ r2)
theorem u16_el : El 58 71 (.int .u16 0) 2 := ⟨Try.underlying58, by kernel_rfl, by decide, rfl⟩
theorem idx_sv (x : List UInt8) (a : Nat) (h : a < x.length) (z : Int) (hz : z = a) (W : World) : (Instr.index 9 (sv x) (.int .i64 z)).run Try.prog W = .ok (.int .u8 ((x.getD a 0).toNat : Int)) W := by
  subst hz
  unfold sv
  rw [run_index_string _ _ _ _ _ Try.underlying9, dif_pos ⟨by omega, by simp [ByteArray.size]; omega⟩]
  congr 3
  have e : ((a : Int)).toNat = a := by omega
  simp only [e]
  rw [List.getD, List.getElem?_eq_getElem h]
  rfl
theorem RdSS.rowCell {w : World} {B : Nat} {A : Option Addr} {H : Nat → Option Addr × Nat} {L : List (List (List UInt8))} (h : RdSS w B A H L) {i r : Nat} (hi : i < L.length) (hr : r < (L.getD i []).length) :
    ∃ b off, (H i).1 = some ⟨b, off, none⟩ ∧ b < B ∧ w.cell? ⟨b, off + r, none⟩ = some (sv ((L.getD i []).getD r [])) := by
  obtain ⟨b, off, hA, hb, hc⟩ := h.rows i hi (by rw [List.length_map]; omega)
  refine ⟨b, off, hA, hb, hc r _ ?_⟩
  generalize L.getD i [] = v at hr
  rw [List.getElem?_map, List.getElem?_eq_getElem hr, List.getD, List.getElem?_eq_getElem hr]
  rfl
/-- The symbol at a place of a row. -/
def sym2 (x : List UInt8) (a : Nat) : F := F.ofNat (256 * (x.getD a 0).toNat + (x.getD (a + 1) 0).toNat)
/-- The symbol of a volume; 0, if it is gone. -/
def symL (L : List (List (List UInt8))) (i r a : Nat) : F := if 0 < (L.getD i []).length then sym2 ((L.getD i []).getD r []) a else 0
theorem sym_or (y1 y2 : UInt8) : bits .or .u16 ((y1.toNat : Int) * 256) (y2.toNat : Int) = ((F.ofNat (256 * y1.toNat + y2.toNat)).nat : Int) := by
  have h1 : y1.toNat < 256 := y1.toNat_lt
  have h2 : y2.toNat < 256 := y2.toNat_lt
  have e1 : (F.ofNat (256 * y1.toNat + y2.toNat)).nat = (256 * y1.toNat + y2.toNat) % 65536 := BitVec.toNat_ofNat _ _
  have e2 := u16_or_nat (y1.toNat * 256) y2.toNat (by omega) (by omega)
  have e3 := Nat.two_pow_add_eq_or_of_lt (i := 8) (b := y2.toNat) (by omega) y1.toNat
  rw [show ((y1.toNat : Int) * 256) = ((y1.toNat * 256 : Nat) : Int) by omega, e2, e1]
  rw [Nat.mul_comm y1.toNat 256]
  rw [show (2 ^ 8 : Nat) = 256 from rfl] at e3
  rw [← e3]
  omega
theorem tab_set {n : Nat} (f : Nat → F) {k : Nat} (hk : k < n) : (tab n (fun j => if j < k then f j else 0)).set k (f k) = tab n (fun j => if j < k + 1 then f j else 0) := by
  unfold tab
  rw [range_set]
  refine range_congr fun j _ => ?_
  by_cases e : j = k
  · subst e; rw [if_pos rfl, if_pos (by omega)]
  · rw [if_neg e]
    by_cases h : j < k
    · rw [if_pos h, if_pos (by omega)]
    · rw [if_neg h, if_neg (by omega)]
theorem tab_skip {n : Nat} (f : Nat → F) {k : Nat} (h0 : f k = 0) : tab n (fun j => if j < k then f j else 0) = tab n (fun j => if j < k + 1 then f j else 0) := by
  refine tab_congr fun j _ => ?_
  by_cases e : j = k
  · subst e; rw [if_neg (Nat.lt_irrefl j), if_pos (by omega), h0]
  · by_cases h : j < k
    · rw [if_pos h, if_pos (by omega)]
    · rw [if_neg h, if_neg (by omega)]
theorem grown_set {a b : World} {p : Addr} {v : Value} (h : a.grownBy b none) (hG : a.heap.size ≤ p.block) : a.grownBy (b.setCell p v).drew none :=
  ⟨h.os, h.tape, h.output, Nat.le_trans h.size (KeepsWalks.setCell b p v).size, fun i hi hne => (Below.heap_setCell b p v i (by omega)).trans (h.block i hi hne)⟩
/-- The word at a place. -/
def wordL (L : List (List (List UInt8))) (n r a : Nat) : List F := tab n (fun i => symL L i r a)
/-- Kept: what lies below n₀, and two blocks. -/
def KpC (n₀ Bs Bv : Nat) (W W' : World) : Prop := Below n₀ W W' ∧ W'.heap[Bs]? = W.heap[Bs]? ∧ W'.heap[Bv]? = W.heap[Bv]?
theorem kpC_t {n₀ Bs Bv : Nat} {A B C : World} (h : KpC n₀ Bs Bv A B) (k : KpC n₀ Bs Bv B C) : KpC n₀ Bs Bv A C := ⟨h.1.trans k.1, k.2.1.trans h.2.1, k.2.2.trans h.2.2⟩
theorem kpC_b {n₀ Bs Bv : Nat} {w : World} (hn : n₀ ≤ w.heap.size) (hB : Bs < w.heap.size) (hB2 : Bv < w.heap.size) (W : World) (l : Nat) (o o' : Obj) (hl : w.heap.size ≤ l) (h : W.heap[l]? = some o) (h1 : o.isCells = false) (h2 : o.isWalk = false) : KpC n₀ Bs Bv W (W.putObj l o') :=
  ⟨belowK_b hn W l o o' hl h h1 h2, (belowK_b (n₀ := Bs + 1) (w := w) hB W l o o' hl h h1 h2).block Bs (Nat.lt_succ_self _), (belowK_b (n₀ := Bv + 1) (w := w) hB2 W l o o' hl h h1 h2).block Bv (Nat.lt_succ_self _)⟩
theorem kpC_grown {n₀ Bs Bv : Nat} {W W' : World} (hg : W.grownBy W' none) (hn : n₀ ≤ W.heap.size) (hB : Bs < W.heap.size) (hB2 : Bv < W.heap.size) : KpC n₀ Bs Bv W W' :=
  ⟨(Below.refl n₀ W).grown hg hn (fun k e => by cases e), hg.block Bs hB (by simp), hg.block Bv hB2 (by simp)⟩
theorem grown_new {a b c : World} {j : Nat} (h : a.grownBy b none) (k : b.grownBy c (some j)) (hj : a.heap.size ≤ j) : a.grownBy c none :=
  ⟨k.os.trans h.os, k.tape.trans h.tape, k.output.trans h.output, Nat.le_trans h.size k.size, fun i hi hne => (k.block i (Nat.lt_of_lt_of_le hi h.size) (fun e => by injection e with e; omega)).trans (h.block i hi hne)⟩
/-- What a round is handed: row, place, the block of the word. -/
abbrev Hand := Nat × Nat × Nat
def encH (n : Nat) (x : Hand) : Array Value := #[.agg #[.int .i64 x.1, .int .i64 x.2.1], .slice (some ⟨x.2.2, 0, none⟩) n n]
/-- What is known of it. -/
def SeenW (L : List (List (List UInt8))) (n D h : Nat) (pre : List Hand) (x : Hand) (W : World) : Prop :=
  ∃ r p, r < D ∧ p < h ∧ pre.length = r * h + p ∧ x.1 = r ∧ x.2.1 = 2 * p ∧ Own W 0 (some ⟨x.2.2, 0, none⟩) n n (wordL L n r (2 * p))

set_option maxRecDepth 100000 in
set_option maxHeartbeats 4000000 in
theorem words1_in (fu : Nat) (hfu : 1 ≤ fu) (l Bs Bv n₀ n c D S h : Nat) (R M : Int) (A : Option Addr) (H : Nat → Option Addr × Nat) (L : List (List (List UInt8))) (J Jx : List Hand → World → Prop) (W : World) (hJ : AbidesFrom W.heap.size J)
    (hY : ∀ pre x V, J pre V → SeenW L n D h pre x V → pre.length < D * h → YieldAt Fence.wide (fu - 1) Try.prog l (encH n x) V fun e V' =>
      (e = .returned (.bool true) ∧ J (pre ++ [x]) V' ∧ KpC n₀ Bs Bv V V') ∨ (e = .returned (.bool false) ∧ Jx (pre ++ [x]) V'))
    (hs : ShapeAt W Bs D R S M) (hv : W.cell? ⟨Bv, 0, none⟩ = some (.slice A n c)) (hl : L.length = n) (hrd : RdSS W n₀ A H L) (hS : S = 2 * h) (hD : D ≤ 64) (hS2 : S ≤ 512) (hn1 : 1 ≤ n) (hn : n ≤ 200)
    (hfine : ∀ i, i < n → 0 < (L.getD i []).length → (L.getD i []).length = D ∧ ∀ r, r < D → ((L.getD i []).getD r []).length = S) (hn0 : n₀ ≤ W.heap.size) (hBs : Bs < W.heap.size) (hBv : Bv < W.heap.size) (h0 : J [] W) :
    CallsIn Fence.wide fu Try.prog 32 #[.func (.yield l) #[] #[], .pointer (some ⟨Bs, 0, none⟩), .pointer (some ⟨Bv, 0, none⟩)] W fun e W' => (∃ v, e = .returned v) ∧
      ((∃ xs : List Hand, xs.length = D * h ∧ J xs W') ∨ (∃ pre : List Hand, True ∧ Jx pre W')) := by
  have HS := Lib.hid hs
  have HV := Lib.hid hv
  have HL := Lib.hid hl
  have HRD := Lib.hid hrd
  have HF := Lib.hid hfine
  have c0 := hs.d
  clear hs hv hl hrd hfine
  refine callsIn_of_wp Try.func32 rfl trivial ?_ rfl
  simp only [Try.ntmps32, List.size_toArray, List.length_cons, List.length_nil, Nat.reduceAdd, Nat.reduceSub, Array.replicate_succ, Array.replicate_zero, List.push_toArray, List.append_toArray, List.nil_append, List.cons_append]
  gi_wp2
  gi_loopw [11] (fun i wr => ∃ (r : Nat) (pre : List Hand), r ≤ D ∧ i = .int .i64 r ∧ pre.length = r * h ∧ J pre wr ∧ KpC n₀ Bs Bv W wr ∧ W.heap.size ≤ wr.heap.size) (fun i _ => D - (intOf i).toNat)
  case atStart => exact ⟨0, [], Nat.zero_le _, rfl, by simp, h0, ⟨Below.refl _ _, rfl, rfl⟩, Nat.le_refl _⟩
  case round =>
    obtain ⟨r, pre, hr, rfl, hpre, hJs, hkp, hsz⟩ := hrel
    by_cases hrD : r < D
    · have q1 : (0 : Int) ≤ (r : Int) := by omega
      have q2 : (r : Int) < (D : Int) := by omega
      gi_wp2
      gi_loopw [5] (fun i wr => ∃ (p : Nat) (pre : List Hand), p ≤ h ∧ i = .int .i64 (2 * (p : Int)) ∧ pre.length = r * h + p ∧ J pre wr ∧ KpC n₀ Bs Bv W wr ∧ W.heap.size ≤ wr.heap.size) (fun i _ => 2 * h - (intOf i).toNat)
      case atStart => exact ⟨0, pre, Nat.zero_le _, rfl, hpre, hJs, hkp, hsz⟩
      case round =>
        obtain ⟨p, pre, hp, rfl, hpre, hJs, hkp, hsz⟩ := hrel
        have hs2 := HS.out.s
        have c2 : wr.cell? ⟨Bs, 2, none⟩ = some (.int .i64 S) := (World.cell?_of_block (w := W) (a := ⟨Bs, 2, none⟩) hkp.2.1).trans hs2
        have c3 : wr.cell? ⟨Bv, 0, none⟩ = some (.slice A n c) := (World.cell?_of_block (w := W) (a := ⟨Bv, 0, none⟩) hkp.2.2).trans HV.out
        clear hs2
        by_cases hph : p < h
        · have t1 : (2 * (p : Int) < (S : Int)) := by omega
          have HSS := Lib.hid hS
          clear hS
          gi_wp2_with (gi_at_make; refine wpListIn_mkV u16_el _ rfl _ _ rfl 0 _ _ n rfl rfl rfl rfl (by omega) (Nat.zero_le _) ?_; intro w2 hown2 hg2; have c4 : w2.cell? ⟨Bv, 0, none⟩ = some (.slice A n c) := (World.cell?_of_block (w := wr) (a := ⟨Bv, 0, none⟩) (hg2.block Bv (by omega) (by simp))).trans c3)
          have hG0 := hown2.blkS.2
          obtain ⟨G, hG⟩ : ∃ G, G = wr.heap.size := ⟨_, rfl⟩
          rw [← hG] at hown2 hG0
          try rw [← hG]
          have HGE := Lib.hid hG
          obtain ⟨w0, rfl⟩ : ∃ w0, w0 = wr := ⟨_, rfl⟩
          have HO2 := Lib.hid (show Own w2 0 (some ⟨G, 0, none⟩) n n (tab n (fun j => if j < 0 then symL L j r (2 * p) else 0)) from Own.ofV (by
            rw [show (tab n (fun j => if j < 0 then symL L j r (2 * p) else (0 : F))).map fv = List.replicate n (.int .u16 0) by
              rw [replicate_range, tab, List.map_map]
              exact range_congr fun j _ => by show fv (if j < 0 then _ else (0 : F)) = _; rw [if_neg (Nat.not_lt_zero _)]; rfl]
            exact hown2))
          have HKP := Lib.hid hkp
          have HG2 := Lib.hid hg2
          have HJ := Lib.hid hJs
          clear hG hown2 c4 hg2 hkp hJs
          refine wpIn_wide.2 ?_
          go_loopw [25] (fun i wr => ∃ k : Nat, k ≤ n ∧ i = .int .i64 k ∧ Own wr 0 (some ⟨G, 0, none⟩) n n (tab n (fun j => if j < k then symL L j r (2 * p) else 0)) ∧ w0.grownBy wr none) (fun i _ => n - (intOf i).toNat)
          case atStart => exact ⟨0, Nat.zero_le _, rfl, HO2.out, HG2.out⟩
          case round =>
            obtain ⟨k, hk, rfl, hown, hgr⟩ := hrel
            have HO := Lib.hid hown
            have HG := Lib.hid hgr
            clear hown HO2 HG2
            by_cases hkn : k < n
            · have hkl : k < L.length := by rw [HL.out]; exact hkn
              have HR := Lib.hid (HRD.out.below (HKP.out.1.trans ((Below.refl n₀ w0).grown hgr (by omega) (fun k e => by cases e))))
              obtain ⟨b, off, rfl, hb, e1⟩ := HR.out.cell hkl
              have q3 : (0 : Int) ≤ (k : Int) := by omega
              have q4 : (k : Int) < (n : Int) := by omega
              by_cases hlen : 0 < (L.getD k []).length
              · obtain ⟨hf1, hf2⟩ := HF.out k hkn hlen
                have hf3 := hf2 r hrD
                rw [hf1] at e1
                obtain ⟨b2, off2, eA, hb2, e2⟩ := HR.out.rowCell hkl (r := r) (by rw [hf1]; exact hrD)
                have hSp : 2 * p + 1 < S := by rw [HSS.out]; omega
                rw [eA] at e1
                have HT := Lib.hid (show symL L k r (2 * p) = sym2 ((L.getD k []).getD r []) (2 * p) from if_pos hlen)
                generalize (L.getD k []).getD r [] = x at e2 HT hf3
                have ix1 := idx_sv x (2 * p) (by omega) (2 * (p : Int)) (by omega)
                have ix2 := idx_sv x (2 * p + 1) (by omega) (2 * (p : Int) + 1) (by omega)
                have q5 : (0 : Int) < (D : Int) := by omega
                have fz := HO.out.frozen k
                have ex := HO.out.cell hkn
                generalize (tab n (fun j => if j < k then symL L j r (2 * p) else (0 : F))).getD k 0 = y0 at ex
                generalize (H k).2 = ck at e1
                have hs2e : sym2 x (2 * p) = F.ofNat (256 * (x.getD (2 * p) 0).toNat + (x.getD (2 * p + 1) 0).toNat) := rfl
                generalize (x.getD (2 * p) 0) = y1 at ix1 hs2e
                generalize (x.getD (2 * p + 1) 0) = y2 at ix2 hs2e
                have v0 : IntKind.i64.wrap (2 * (p : Int) + 1) = 2 * (p : Int) + 1 := IntWalk.i64_in _ ⟨by omega, by omega⟩
                have hy1 : y1.toNat < 256 := y1.toNat_lt
                have hy2 : y2.toNat < 256 := y2.toNat_lt
                have v1 : IntKind.u16.wrap (y1.toNat : Int) = (y1.toNat : Int) := IntWalk.u16_in _ ⟨by omega, by omega⟩
                have v2 : IntKind.u16.wrap ((y1.toNat : Int) * 256) = (y1.toNat : Int) * 256 := IntWalk.u16_in _ ⟨by omega, by omega⟩
                have v3 : IntKind.u16.wrap (y2.toNat : Int) = (y2.toNat : Int) := IntWalk.u16_in _ ⟨by omega, by omega⟩
                have v4 := sym_or y1 y2
                rw [show sym2 x (2 * p) = F.ofNat (256 * y1.toNat + y2.toNat) from hs2e] at HT
                generalize F.ofNat (256 * y1.toNat + y2.toNat) = y3 at HT v4
                clear hgr hy1 hy2 hs2e
                go_wp2_with fail
                refine region_tail 20 (by kernel_rfl) (by kernel_rfl) ?_
                simp only [List.take_succ_cons, List.take_zero, List.drop_succ_cons, List.drop_zero]
                repeat (first | still_step)
                refine wpStill_nil ?_
                go_wp2_with fail
                go_roundw
                case rel => exact ⟨k + 1, by omega, by go_num, by rw [← tab_set (fun j => symL L j r (2 * p)) hkn, HT.out]; exact (HO.out.store k y3 rfl).drew, grown_set (p := ⟨G, k, none⟩) HG.out (by show w0.heap.size ≤ G; rw [HGE.out]; exact Nat.le_refl _)⟩
                case measure => simp only [intOf]; omega
              · have HT := Lib.hid (show symL L k r (2 * p) = 0 from if_neg hlen)
                generalize (L.getD k []).length = m at e1 hlen
                generalize (H k).1 = Ak at e1
                generalize (H k).2 = ck at e1
                clear hgr
                go_wp2_with fail
                go_roundw
                case rel => exact ⟨k + 1, by omega, by go_num, by rw [← tab_skip (fun j => symL L j r (2 * p)) HT.out]; exact HO.out, HG.out⟩
                case measure => simp only [intOf]; omega
            · obtain rfl : k = n := by omega
              have HW := Lib.hid (show Own wr 0 (some ⟨G, 0, none⟩) k k (wordL L k r (2 * p)) by
                rw [wordL, tab_congr (g := fun j => if j < k then symL L j r (2 * p) else 0) (fun j hj => (if_pos hj).symm)]
                exact HO.out)
              have hlt : pre.length < D * h := by
                have h1 := Nat.mul_le_mul_right h (show r + 1 ≤ D by omega)
                rw [Nat.succ_mul] at h1
                omega
              obtain ⟨fn, tmps, assign, body, hy, hR⟩ := hY pre (r, 2 * p, G) wr (hJ pre w0 wr none HJ.out HG.out (fun _ e => by cases e)) ⟨r, p, hrD, hph, hpre, rfl, rfl, HW.out⟩ hlt
              dsimp only [encH] at hy
              rw [show ((2 * p : Nat) : Int) = 2 * (p : Int) by omega] at hy
              have HR := Lib.hid hR
              clear hR hlt hY
              go_wp2_with fail
              gi_wp2
              refine HR.out.mono ?_
              rintro e W3 (⟨rfl, hJ3, hk3⟩ | ⟨rfl, hJx3⟩)
              · gi_wp2
                go_roundw
                case rel => exact ⟨p + 1, pre ++ [(r, 2 * p, G)], by omega, by go_num, by rw [List.length_append, hpre]; simp; omega, hJ3, kpC_t (kpC_t HKP.out (kpC_grown hgr (by omega) (by omega) (by omega))) hk3, by have := hgr.size; have := (hk3.1).size; omega⟩
                case measure => simp only [intOf]; omega
              · gi_wp2
                refine bodyPost_ret (results_none rfl _ _ _) rfl ?_
                exact ⟨⟨_, rfl⟩, .inr ⟨_, trivial, hJx3⟩⟩
        · obtain rfl : p = h := by omega
          have t1 : ¬ (2 * (p : Int) < (S : Int)) := by omega
          gi_wp2
          go_roundw
          case rel => exact ⟨r + 1, pre, by omega, by go_num, by rw [hpre, Nat.succ_mul], hJs, hkp, hsz⟩
          case measure => simp only [intOf]; omega
    · obtain rfl : r = D := by omega
      gi_wp2
      go_end0
      exact ⟨⟨_, rfl⟩, .inl ⟨pre, hpre, hJs⟩⟩
end Go.Proofs.Ythejbmjleohlfaa
