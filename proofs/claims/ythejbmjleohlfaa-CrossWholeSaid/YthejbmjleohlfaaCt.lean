/- The walk of sums. -/
import Derived.Test.YthejbmjleohlfaaCs
namespace Go.Proofs.Ythejbmjleohlfaa
set_option linter.unusedVariables false
set_option linter.unusedSimpArgs false
open Go.RowKit

theorem sumR_get {x y : List UInt8} {a : Nat} (h : a < (sumR x y).length) : (sumR x y)[a] = x.getD a 0 ^^^ y.getD a 0 := by simp [sumR]
theorem bits_xor8 (a b : UInt8) : bits .xor .u8 (a.toNat : Int) (b.toNat : Int) = ((a ^^^ b).toNat : Int) := by
  have h : (a ^^^ b).toNat < 256 := (a ^^^ b).toNat_lt
  have e : ∀ x : UInt8, BitVec.ofInt 8 (x.toNat : Int) = x.toBitVec := fun x => by
    rw [BitVec.ofInt_natCast]
    exact BitVec.eq_of_toNat_eq (by rw [BitVec.toNat_ofNat]; exact Nat.mod_eq_of_lt x.toNat_lt)
  show IntKind.u8.wrap ((BitVec.ofInt 8 (a.toNat : Int) ^^^ BitVec.ofInt 8 (b.toNat : Int)).toNat : Int) = _
  rw [e, e, IntKind.wrap_u8]
  show (((a ^^^ b).toNat : Nat) : Int) % 256 = _
  omega
/-- The first bytes of a block that may be written. -/
structure Bytes (w : World) (G S : Nat) (f : Nat → UInt8) : Prop where
  cell : ∀ j, j < S → w.cell? ⟨G, j, none⟩ = some (.int .u8 ((f j).toNat : Int))
  frz : ∀ j, j < S → w.frozen? ⟨G, j, none⟩ = false
theorem Bytes.congr {w : World} {G S : Nat} {f g : Nat → UInt8} (h : Bytes w G S f) (e : ∀ j, j < S → f j = g j) : Bytes w G S g := ⟨fun j hj => by rw [← e j hj]; exact h.cell j hj, h.frz⟩
theorem Bytes.store {w : World} {G S k : Nat} {f : Nat → UInt8} (h : Bytes w G S f) (hk : k < S) (v : UInt8) : Bytes (w.setCell ⟨G, k, none⟩ (.int .u8 (v.toNat : Int))) G S (fun j => if j = k then v else f j) := by
  refine ⟨fun j hj => ?_, fun j hj => by rw [World.frozen?_setCell]; exact h.frz j hj⟩
  by_cases e : j = k
  · subst e
    rw [World.cell?_setCell_same _ _ _ (h.cell j hj), if_pos rfl]
  · rw [World.cell?_setCell_other _ _ _ _ (by intro e2; injection e2; omega), if_neg e]
    exact h.cell j hj
theorem bytes_in (x : List UInt8) (w : World) : ∃ (wb : World) (cap : Nat), (convert 9 26 (sv x)).run Try.prog w = .ok (.slice (some ⟨w.heap.size, 0, none⟩) x.length cap) wb ∧ Below w.heap.size w wb ∧ Bytes wb w.heap.size x.length (fun j => x.getD j 0) := by
  refine ⟨_, _, run_bytes_of_string w 9 26 5 ⟨x.toArray⟩ Try.underlying9 Try.underlying26 Try.underlying5, ((Below.refl _ _).drew).alloc (Nat.le_refl _) _, fun j hj => ?_, fun j hj => ?_⟩
  · refine (World.cell?_alloc_mark w.drew _ _ _ j).trans ?_
    unfold bytesRow
    rw [Array.getElem?_append_left (by simpa using hj)]
    simp [List.getD, hj]
  · refine (World.frozen?_alloc_mark w.drew _ _ _ _ j).trans ?_
    have : j < (bytesRow ⟨x.toArray⟩ (grownCap w (ByteArray.size ⟨x.toArray⟩) 0 5)).size := by
      unfold bytesRow
      simp
      omega
    rw [decide_eq_false (by omega)]
    rfl

set_option maxRecDepth 100000 in
set_option maxHeartbeats 8000000 in
theorem sums_any (A1 A2 : Option Addr) (n c1 c2 D S : Nat) (H1 H2 : Nat → Option Addr × Nat) (L K : List (List (List UInt8))) (w : World) (hL : L.length = n) (hK : K.length = n) (hr1 : RdSS w w.heap.size A1 H1 L) (hr2 : RdSS w w.heap.size A2 H2 K)
    (hg1 : ∀ i, i < n → Reg D S (L.getD i [])) (hg2 : ∀ i, i < n → Reg D S (K.getD i [])) (hn : n ≤ 200) (hD : D ≤ 64) (hS : S ≤ 512) :
    Calls Try.prog 15 #[.slice A1 n c1, .slice A2 n c2] w fun e w' => ∃ (A : Option Addr) (c' : Nat) (H : Nat → Option Addr × Nat), e = .returned (.slice A n c') ∧ OwnSS w' w.heap.size A n c' H (sumL L K) ∧ Below w.heap.size w w' := by
  have HL := Lib.hid hL
  have HK := Lib.hid hK
  have R1 := Lib.hid hr1
  have R2 := Lib.hid hr2
  have G1 := Lib.hid hg1
  have G2 := Lib.hid hg2
  have HSUM := Lib.hid (show sumL L K = (List.range n).map fun i => sumV (L.getD i []) (K.getD i []) by unfold sumL; rw [hL])
  clear hL hK hr1 hr2 hg1 hg2
  go_enter Try.func15, Try.ntmps15
  go_wp2_with fail
  go_loopw [5, 6] (fun v i wr => ∃ (k : Nat) (A : Option Addr) (c' : Nat) (H : Nat → Option Addr × Nat), k ≤ n ∧ i = .int .i64 k ∧ v = .slice A k c' ∧ OwnSS wr w.heap.size A k c' H ((List.range k).map fun i => sumV (L.getD i []) (K.getD i [])) ∧ Below w.heap.size w wr) (fun _ i _ => n - (intOf i).toNat)
  case atStart => exact ⟨0, none, 0, fun _ => (none, 0), Nat.zero_le _, rfl, rfl, OwnSS.nil _ _ _, Below.refl _ _⟩
  case round =>
    obtain ⟨k, A, c', H, hk, rfl, rfl, hown, hbel⟩ := hrel
    have HO := Lib.hid hown
    have HB := Lib.hid hbel
    have hsq := hbel.size
    clear hown hbel
    obtain ⟨wq, rfl⟩ : ∃ wq, wq = wr := ⟨_, rfl⟩
    by_cases hkn : k < n
    · obtain ⟨b1, o1, rfl, hb1, E1⟩ := R1.out.cell (i := k) (by rw [HL.out]; exact hkn)
      obtain ⟨b2, o2, rfl, hb2, E2⟩ := R2.out.cell (i := k) (by rw [HK.out]; exact hkn)
      rw [(G1.out k hkn).1] at E1
      rw [(G2.out k hkn).1] at E2
      have HC1 := Lib.hid (fun r (h : r < D) => R1.out.rowCell (i := k) (r := r) (by rw [HL.out]; exact hkn) (by rw [(G1.out k hkn).1]; exact h))
      have HC2 := Lib.hid (fun r (h : r < D) => R2.out.rowCell (i := k) (r := r) (by rw [HK.out]; exact hkn) (by rw [(G2.out k hkn).1]; exact h))
      have HX1 := Lib.hid (G1.out k hkn).2
      have HX2 := Lib.hid (G2.out k hkn).2
      have HTL := Lib.hid (range_next (fun i => sumV (L.getD i []) (K.getD i [])) k)
      have HVE := Lib.hid (show sumV (L.getD k []) (K.getD k []) = (List.range D).map fun r => sumR ((L.getD k []).getD r []) ((K.getD k []).getD r []) by unfold sumV; rw [(G1.out k hkn).1])
      generalize (H1 k).1 = Ar1 at E1 HC1
      generalize (H1 k).2 = cr1 at E1
      generalize (H2 k).1 = Ar2 at E2 HC2
      generalize (H2 k).2 = cr2 at E2
      have HE1 := Lib.hid E1
      have HE2 := Lib.hid E2
      clear E1 E2
      have q1 : (0 : Int) ≤ (k : Int) := by omega
      have q2 : (k : Int) < (n : Int) := by omega
      go_wp2_with fail
      go_loopw [7, 8] (fun v i wr => ∃ (r : Nat) (A2 : Option Addr) (c2 : Nat), r ≤ D ∧ i = .int .i64 r ∧ v = .slice A2 r c2 ∧ OwnV 9 wr wq.heap.size A2 r c2 (((List.range r).map fun r => sumR ((L.getD k []).getD r []) ((K.getD k []).getD r [])).map sv) ∧ Below wq.heap.size wq wr) (fun _ i _ => D - (intOf i).toNat)
      case atStart => exact ⟨0, none, 0, Nat.zero_le _, rfl, rfl, OwnV.nil _ _ _, Below.refl _ _⟩
      case round =>
        obtain ⟨r, A2, cx, hrD, rfl, rfl, hown2, hbel2⟩ := hrel
        have HO2 := Lib.hid hown2
        have HB2 := Lib.hid hbel2
        have hs2 := hbel2.size
        have HBW := Lib.hid (bstep HB.out (Nat.le_refl _) hbel2)
        have f1 := (HBW.out.cell (p := ⟨b1, o1 + k, none⟩) hb1).trans HE1.out
        clear hown2 hbel2
        obtain ⟨w2, rfl⟩ : ∃ w2, w2 = wr := ⟨_, rfl⟩
        by_cases hrn : r < D
        · obtain ⟨p1, p2, rfl, hp1, S1⟩ := HC1.out r hrn
          obtain ⟨p3, p4, rfl, hp3, S2⟩ := HC2.out r hrn
          have hx1 := HX1.out r hrn
          have hx2 := HX2.out r hrn
          have HN := range_next (fun r => sumR ((L.getD k []).getD r []) ((K.getD k []).getD r [])) r
          generalize (L.getD k []).getD r [] = x at S1 hx1 HN
          generalize (K.getD k []).getD r [] = y at S2 hx2 HN
          have s1 := (HBW.out.cell (p := ⟨p1, p2 + r, none⟩) hp1).trans S1
          have HS2 := Lib.hid S2
          have HNN := Lib.hid HN
          clear S1 S2 HN
          obtain ⟨wb, cb, hcb, hbb, hby⟩ := bytes_in x w2
          rw [hx1] at hcb hby
          obtain ⟨G, hG⟩ : ∃ G, G = w2.heap.size := ⟨_, rfl⟩
          rw [← hG] at hcb hby
          have HG := Lib.hid hG
          have HBY := Lib.hid hby
          have HBB := Lib.hid hbb
          have HXS := Lib.hid hx1
          have HYS := Lib.hid hx2
          clear hG hby hbb hx1 hx2
          have q3 : (0 : Int) ≤ (r : Int) := by omega
          have q4 : (r : Int) < (D : Int) := by omega
          go_wp2_with fail
          clear hcb s1 f1
          go_loopw [10] (fun i wr => ∃ j : Nat, j ≤ S ∧ i = .int .i64 j ∧ Bytes wr G S (fun a => if a < j then x.getD a 0 ^^^ y.getD a 0 else x.getD a 0) ∧ Below w2.heap.size w2 wr) (fun i _ => S - (intOf i).toNat)
          case atStart => exact ⟨0, Nat.zero_le _, rfl, HBY.out.congr fun j _ => (if_neg (Nat.not_lt_zero _)).symm, HBB.out⟩
          case round =>
            obtain ⟨j, hj, rfl, hby, hbi⟩ := hrel
            have HBI := Lib.hid (bstep HBW.out (Nat.le_refl _) hbi)
            have HB3 := Lib.hid hbi
            have hs3 := hbi.size
            clear hbi
            by_cases hjS : j < S
            · have f2 := (HBI.out.cell (p := ⟨b2, o2 + k, none⟩) hb2).trans HE2.out
              have s2 := (HBI.out.cell (p := ⟨p3, p4 + r, none⟩) hp3).trans HS2.out
              have c1 := hby.cell j hjS
              simp only [Nat.lt_irrefl, if_false] at c1
              have z1 := hby.frz j hjS
              have ix := idx_sv y j (by rw [HYS.out]; exact hjS) (j : Int) rfl
              have vx := bits_xor8 (x.getD j 0) (y.getD j 0)
              have HST := Lib.hid ((hby.store hjS (x.getD j 0 ^^^ y.getD j 0)).congr (g := fun a => if a < j + 1 then x.getD a 0 ^^^ y.getD a 0 else x.getD a 0) (fun a _ => by
                by_cases e : a = j
                · subst e
                  rw [if_pos rfl, if_pos (by omega)]
                · rw [if_neg e]
                  by_cases e2 : a < j
                  · rw [if_pos e2, if_pos (by omega)]
                  · rw [if_neg e2, if_neg (by omega)]))
              generalize x.getD j 0 = xb at c1 vx HST
              generalize y.getD j 0 = yb at ix vx HST
              have q5 : (0 : Int) ≤ (j : Int) := by omega
              have q6 : (j : Int) < (S : Int) := by omega
              clear hby
              go_wp2_with fail
              refine region_tail 17 (by kernel_rfl) (by kernel_rfl) ?_
              simp only [List.take_succ_cons, List.take_zero, List.drop_succ_cons, List.drop_zero]
              repeat (first | still_step)
              refine wpStill_nil ?_
              go_wp2_with fail
              go_roundw
              case rel => exact ⟨j + 1, by omega, by go_num, ⟨fun a ha => HST.out.cell a ha, fun a ha => HST.out.frz a ha⟩, (HB3.out.setCell (p := ⟨G, j, none⟩) (by show w2.heap.size ≤ G; rw [HG.out]; exact Nat.le_refl _) _).drew⟩
              case measure => simp only [intOf]; omega
            · obtain rfl : j = S := by omega
              have hcv := run_convert_bytes_back (P := Try.prog) wr 26 9 5 ⟨G, 0, none⟩ cb (sumR x y) Try.underlying26 Try.underlying5 Try.underlying9 (fun a ha => by
                have ha' : a < j := by rw [sumR_length, HXS.out] at ha; exact ha
                rw [addr_add, Nat.zero_add, hby.cell a ha', if_pos ha', sumR_get])
              rw [sumR_length, HXS.out] at hcv
              have HO3 := Lib.hid (HO2.out.below HB3.out)
              generalize sumR x y = xs at hcv HNN
              clear hby
              go_wp2_with (at_builtin; refine wpList_pushV str_el _ rfl _ _ rfl wq.heap.size _ _ _ _ rfl (HO3.out.alloc _) wr.heap.size 1 (sv xs) rfl rfl (by unfold sv; go_cell) (by omega) (by simp; omega) ?_; intro A3 c3 w3 hown3 hb3 hg3)
              go_roundw
              case rel => exact ⟨r + 1, A3, c3, by omega, by go_num, rfl, by rw [← HNN.out, List.map_append]; exact hown3, ((HB2.out.trans (HB3.out.mono hs2)).alloc (Nat.le_trans hs2 hs3) _).trans hb3⟩
              case measure => simp only [intOf]; omega
        · obtain rfl : r = D := by omega
          rw [← HVE.out] at HO2
          have HO4 := Lib.hid (HO.out.below HB2.out)
          have hvl : (sumV (L.getD k []) (K.getD k [])).length = r := by rw [HVE.out, List.length_map, List.length_range]
          have HO5 := Lib.hid (show OwnV 9 w2 w.heap.size A2 (sumV (L.getD k []) (K.getD k [])).length cx ((sumV (L.getD k []) (K.getD k [])).map sv) by rw [hvl]; exact HO2.out.less hsq)
          have hs5 := HBW.out.size
          have HVL := Lib.hid hvl
          clear HO2 HB2 HB HO hvl HVE
          generalize sumV (L.getD k []) (K.getD k []) = vv at HO5 HVL HTL
          go_wp2_with (at_builtin; refine wpList_pushV strs_el _ rfl _ _ rfl w.heap.size _ _ _ _ rfl (HO4.out.top.alloc _) w2.heap.size 1 (.slice A2 r cx) rfl rfl (by go_cell) (by omega) (by simp; omega) ?_; intro A3 c3 w3 hown3 hb3 hg3)
          have hown4 : OwnV 24 w3 w.heap.size A3 (k + 1) c3 (hdV H ((List.range k).map fun i => sumV (L.getD i []) (K.getD i [])) ++ [.slice A2 vv.length cx]) := by rw [HVL.out]; exact hown3
          have hp := (HO4.out.alloc (.cells #[.slice A2 r cx] 24)).push (h := (A2, cx)) (HO5.out.alloc _) hown4 hg3
          go_roundw
          case rel => exact ⟨k + 1, A3, c3, _, by omega, by go_num, rfl, by rw [← HTL.out]; exact hp, (HBW.out.alloc hs5 _).trans hb3⟩
          case measure => simp only [intOf]; omega
    · obtain rfl : k = n := by omega
      go_wp2_with fail
      go_ret
      exact ⟨A, c', H, rfl, by rw [HSUM.out]; exact HO.out, HB.out⟩
end Go.Proofs.Ythejbmjleohlfaa
