/- The walk of the checks: what Check hands back are the checks of the data. -/
import Derived.Test.YthejbmjleohlfaaRsw
namespace Go.Proofs.Ythejbmjleohlfaa
open Go.RowKit

/-- A slice that the call may write: its cells lie in a block from B on, and read as l. -/
def Mine (w : World) (B : Nat) (A : Option Addr) (l : List F) : Prop :=
  0 < l.length → ∃ g off N row, A = some ⟨g, off, none⟩ ∧ Own w B (some ⟨g, 0, none⟩) N N row ∧ off + l.length ≤ N ∧ ∀ j, j < l.length → row.getD (off + j) 0 = l.getD j 0
theorem Mine.nil {w : World} {B : Nat} {A : Option Addr} : Mine w B A [] := fun h => absurd h (by simp)
theorem Mine.rd {w : World} {B : Nat} {A : Option Addr} {l : List F} (h : Mine w B A l) : Rd w w.heap.size A l := fun h0 => by
  obtain ⟨g, off, N, row, rfl, hown, hle, hj⟩ := h h0
  obtain ⟨g', e, _, hlt⟩ := hown.form (by omega)
  injection e with e; injection e with e; subst e
  exact ⟨g, off, rfl, hlt, fun j hjl => by rw [hown.cell (j := off + j) (by omega), hj j hjl]⟩
theorem Mine.below {w w' : World} {B : Nat} {A : Option Addr} {l : List F} (h : Mine w B A l) (hb : Below w.heap.size w w') : Mine w' B A l := fun h0 => by
  obtain ⟨g, off, N, row, hA, hown, hle, hj⟩ := h h0
  exact ⟨g, off, N, row, hA, hown.below hb, hle, hj⟩
theorem Mine.less {w : World} {B B' : Nat} {A : Option Addr} {l : List F} (h : Mine w B A l) (hB : B' ≤ B) : Mine w B' A l := fun h0 => by
  obtain ⟨g, off, N, row, hA, hown, hle, hj⟩ := h h0
  refine ⟨g, off, N, row, hA, ⟨hown.1, hown.2.1, ?_⟩, hle, hj⟩
  rcases hown.2.2 with h | ⟨g', cap, cur, hv, hb, h⟩
  · exact .inl h
  · exact .inr ⟨g', cap, cur, hv, by omega, h⟩

/-- Handed back: a slice that the call may write, and no error. -/
def RetMine2 (w : World) (l : List F) (e : Ending) (w' : World) : Prop := ∃ A c, e = .returned (.tuple #[.slice A l.length c, .int .i64 0]) ∧ Mine w' w.heap.size A l ∧ Below w.heap.size w w'

/-- The division's row: k symbols are taken off. -/
def DivRow (r k : Nat) (data row : List F) : Prop := row.length = data.length + r ∧ row.drop k = divN (baseL r) k (data ++ List.replicate r 0)
/-- In the midst of one round: i symbols are added. -/
def DivMid (r k i : Nat) (c : F) (row row2 : List F) : Prop := row2.length = row.length ∧ ∀ t, row2.getD (k + t) 0 = if t < i then row.getD (k + t) 0 + c * (baseL r).getD t 0 else row.getD (k + t) 0
theorem drop_getD (l : List F) (k t : Nat) : (l.drop k).getD t 0 = l.getD (k + t) 0 := by simp [List.getD, List.getElem?_drop]
theorem divMid_start (r k : Nat) (c : F) (row : List F) : DivMid r k 0 c row row := ⟨rfl, fun t => by rw [if_neg (by omega)]⟩
theorem divMid_next {r k i : Nat} {c : F} {row row2 : List F} (h : DivMid r k i c row row2) (hi : k + i < row.length) {a : F} (ha : a = row2.getD (k + i) 0 + c * (baseL r).getD i 0) : DivMid r k (i + 1) c row (row2.set (k + i) a) := by
  refine ⟨by rw [List.length_set]; exact h.1, fun t => ?_⟩
  by_cases e : i = t
  · subst e
    rw [getD_set_eq a (by rw [h.1]; exact hi), if_pos (by omega), ha, h.2 i, if_neg (by omega)]
  · rw [getD_set_ne a (by omega), h.2 t]
    by_cases h1 : t < i
    · rw [if_pos h1, if_pos (by omega)]
    · rw [if_neg h1, if_neg (by omega)]
theorem divMid_done {r k : Nat} {data row row2 : List F} (hrow : DivRow r k data row) (h : DivMid r k (r + 1) (row.getD k 0) row row2) : DivRow r (k + 1) data row2 := by
  refine ⟨by rw [h.1, hrow.1], ?_⟩
  have e : row2.drop k = axpy (row.drop k) (baseL r) ((row.drop k).getD 0 0) := by
    refine tab_ext (by rw [List.length_drop, List.length_drop, h.1]) fun t ht => ?_
    rw [drop_getD, drop_getD, drop_getD, h.2 t]
    by_cases h1 : t < r + 1
    · rw [if_pos h1]; rfl
    · rw [if_neg h1, getD_beyond (g := baseL r) (by rw [baseL_length]; omega), F.mul_zero, F.add_zero]
  rw [divN, divStep, ← hrow.2, ← e, List.tail_drop]
theorem divRow_start (data : List F) (r : Nat) : DivRow r 0 data (data ++ (List.replicate (data.length + r) (0 : F)).drop data.length) := by
  rw [List.drop_replicate, show data.length + r - data.length = r from by omega]
  exact ⟨by rw [List.length_append, List.length_replicate], rfl⟩
theorem divRow_done {data row : List F} {r : Nat} (h : DivRow r data.length data row) : row.drop data.length = checkL data r := h.2

set_option maxRecDepth 100000 in
set_option maxHeartbeats 4000000 in
theorem check_ok (A : Option Addr) (n c r : Nat) (l : List F) (w : World) (hl : l.length = n) (hrd : Rd w w.heap.size A l) (hnr : n + r ≤ 255) :
    Calls Try.prog 22 #[.slice A n c, .int .i64 r] w (RetMine2 w (checkL l r)) := by
  have t1 : decide ((r : Int) < 0) = false := by simp
  have t2 : decide ((255 : Int) < (r : Int)) = false := by simp; omega
  have t3 : decide ((255 : Int) - (r : Int) < (n : Int)) = false := by simp; omega
  have HL := Lib.hid hl
  have HRD := Lib.hid hrd
  clear hl hrd
  obtain ⟨N, hN⟩ : ∃ N, N = n + r := ⟨_, rfl⟩
  have HN := Lib.hid hN
  have hN1 : N ≤ n + r := by omega
  have hN2 : n + r ≤ N := by omega
  clear hN
  go_enter Try.func22, Try.ntmps22
  go_wp2_with (go_at_call 33; refine (new_any _).mono ?_; rintro e w' ⟨rfl, rfl⟩)
  refine (base_any _ r _ (by omega)).mono ?_
  rintro e wb ⟨Ag, cg, rfl, howng, hbelb⟩
  have hbelw : Below w.heap.size w wb := (balloc w _).trans (hbelb.mono (by simp))
  have HG := Lib.hid howng.rd
  rw [baseL_length]
  clear howng hbelb
  have hr2 := HRD.out.below hbelw
  have HR2 := Lib.hid hr2
  clear hr2
  go_wp2_with (first
    | (at_make; refine wpList_mk _ rfl _ _ rfl wb.heap.size _ _ N rfl rfl (by omega) (by omega) (by omega) (Nat.le_refl _) ?_; intro w1 hown hg)
    | (refine wpList_cp _ rfl (.tmp 34) (.tmp 35) rfl wb.heap.size wb.heap.size N _ rfl hown A n c w.heap.size l rfl HL.out (HR2.out.below ((Below.refl w.heap.size wb).grown hg hbelw.size (by simp))) (by omega) (by omega) ?_; intro w2 hown2 hb2))
  have HD := Lib.hid (divRow_start l r)
  rw [HL.out, ← HN.out] at HD
  have HO2 := Lib.hid hown2
  have hb0 : Below wb.heap.size wb w2 := ((Below.refl _ _).grown hg (Nat.le_refl _) (by simp)).trans (hb2.mono (Nat.le_refl _))
  clear hown hown2 hg hb2
  generalize l ++ (List.replicate N (0 : F)).drop n = row0 at HD HO2
  go_loopw [8, 39] (fun v j wr => ∃ (k m o : Nat) (row : List F), k ≤ n ∧ m + k = N ∧ (0 < m → o = k) ∧ j = .int .i64 k ∧ v = .slice (some ⟨wb.heap.size, o, none⟩) m m ∧ Own wr wb.heap.size (some ⟨wb.heap.size, 0, none⟩) N N row ∧ Hid (DivRow r k l row) ∧ Below wb.heap.size wb wr) (fun _ j _ => n - (intOf j).toNat)
  case atStart => exact ⟨0, N, 0, row0, by omega, rfl, fun _ => rfl, rfl, rfl, HO2.out, HD, hb0⟩
  case round =>
    obtain ⟨k, m, o, row, hk, hm, ho, rfl, rfl, hown, HDR, hbel⟩ := hrel
    have hm1 : m + k ≤ N := by omega
    have hm2 : N ≤ m + k := by omega
    clear hm HD HO2 hb0
    by_cases hlt : k < n
    · obtain rfl : o = k := ho (by omega)
      clear ho
      have c0 := hown.cell (j := o) (by omega)
      generalize hcc : row.getD o 0 = cc at c0
      have HCC := Lib.hid hcc
      clear hcc
      have hmp : 0 < m := by omega
      go_wp2
      obtain ⟨bg, og, rfl, hbg, hcg⟩ := HG.out (by rw [baseL_length]; omega)
      have HCG := Lib.hid hcg
      clear hcg
      go_loopw [46] (fun i wr2 => ∃ (i' : Nat) (row2 : List F), i' ≤ r + 1 ∧ i = .int .i64 i' ∧ Own wr2 wb.heap.size (some ⟨wb.heap.size, 0, none⟩) N N row2 ∧ Hid (DivMid r o i' cc row row2) ∧ Below wb.heap.size wb wr2) (fun i _ => r + 1 - (intOf i).toNat)
      case atStart => exact ⟨0, row, by omega, rfl, hown, divMid_start r o cc row, hbel⟩
      case round =>
        obtain ⟨i, row2, hi, rfl, hown2, HMID, hbel2⟩ := hrel
        clear c0
        by_cases hir : i < r + 1
        · have c1 := hown2.cell (j := o + i) (by omega)
          have c2 := (hbel2.cell (p := ⟨bg, og + i, none⟩) hbg).trans (HCG.out i (by rw [baseL_length]; exact hir))
          have hfz := hown2.frozen (o + i)
          generalize hx : row2.getD (o + i) 0 = x at c1
          generalize hy : (baseL r).getD i 0 = y at c2
          have HX := Lib.hid hx
          have HY := Lib.hid hy
          clear hx hy
          have q1 : (0 : Int) ≤ (i : Int) := by omega
          have q2 : (i : Int) < (m : Int) := by omega
          go_wp2
          refine region_tail 13 (by kernel_rfl) (by kernel_rfl) ?_
          simp only [List.take_succ_cons, List.take_zero, List.drop_succ_cons, List.drop_zero]
          repeat (first
            | still_step
            | still_call (stillOf (mul_any _ _ _ cc y _ rfl rfl))
            | still_call (stillOf (add_any _ _ _ x (cc * y) _ rfl rfl)))
          refine wpStill_nil ?_
          go_wp2
          go_roundw
          case rel => exact ⟨i + 1, row2.set (o + i) (x + cc * y), by omega, by go_num, (hown2.store (o + i) _ rfl).drew, divMid_next HMID.out (by rw [HDR.out.1, HL.out]; omega) (by rw [HX.out, HY.out]), (hbel2.setCell (p := ⟨wb.heap.size, o + i, none⟩) (Nat.le_refl _) _).drew⟩
          case measure => simp only [intOf]; omega
        · obtain rfl : i = r + 1 := by omega
          have HDD := Lib.hid (divMid_done HDR.out (by rw [HCC.out]; exact HMID.out))
          clear HMID
          by_cases hm0 : m = 1
          · subst hm0
            go_wp2
            go_roundw
            case rel => exact ⟨o + 1, 0, o, row2, by omega, by omega, fun h => by omega, by go_num, rfl, hown2, HDD.out, hbel2⟩
            case measure => simp only [intOf]; omega
          · go_wp2
            go_roundw
            case rel => exact ⟨o + 1, m - 1, o + 1, row2, by omega, by omega, fun _ => rfl, by go_num, rfl, hown2, HDD.out, hbel2⟩
            case measure => simp only [intOf]; omega
    · obtain rfl : k = n := by omega
      have hmr : m = r := by omega
      have HMR := Lib.hid hmr
      clear hmr
      go_wp2
      go_ret2
      have hlen := checkL_length l r
      refine ⟨_, _, etup_sn (HMR.out.trans hlen.symm), fun h0 => ?_, hbelw.trans (hbel.mono hbelw.size)⟩
      rw [hlen] at h0
      have hmr := HMR.out
      obtain rfl : o = k := ho (by omega)
      refine ⟨_, o, N, row, rfl, ⟨hown.1, hown.2.1, ?_⟩, by rw [hlen]; omega, fun j _ => ?_⟩
      · rcases hown.2.2 with h | ⟨g', cap, cur, hv, hb, h⟩
        · exact .inl h
        · exact .inr ⟨g', cap, cur, hv, Nat.le_trans hbelw.size hb, h⟩
      · have hd := HDR.out.2
        rw [← drop_getD, hd]
        unfold checkL
        rw [HL.out]
end Go.Proofs.Ythejbmjleohlfaa
