/- The walk of a table's texts. -/
import Derived.Test.YthejbmjleohlfaaCd
namespace Go.Proofs.Ythejbmjleohlfaa
set_option linter.unusedVariables false
open Go.RowKit

theorem addr_add (b off j : Nat) : (⟨b, off, none⟩ : Addr).add j = ⟨b, off + j, none⟩ := by unfold Addr.add; split <;> simp_all
theorem strs_el : El 23 24 (.slice none 0 0) 24 := ⟨Try.underlying23, by kernel_rfl, by decide, rfl⟩
theorem str_el : El 24 9 (.string ⟨#[]⟩) 16 := ⟨Try.underlying24, by kernel_rfl, by decide, rfl⟩
/-- A row's bytes; a volume's rows; all volumes. -/
def rowL (S : Nat) (f : Nat → Nat → Nat → UInt8) (i r : Nat) : List UInt8 := (List.range S).map (f i r)
def volL (D S : Nat) (f : Nat → Nat → Nat → UInt8) (i : Nat) : List (List UInt8) := (List.range D).map (rowL S f i)
def tabL (n D S : Nat) (f : Nat → Nat → Nat → UInt8) : List (List (List UInt8)) := (List.range n).map (volL D S f)
theorem tabL_length (n D S : Nat) (f : Nat → Nat → Nat → UInt8) : (tabL n D S f).length = n := by simp [tabL]
theorem volL_length (D S : Nat) (f : Nat → Nat → Nat → UInt8) (i : Nat) : (volL D S f i).length = D := by simp [volL]
theorem rowL_length (S : Nat) (f : Nat → Nat → Nat → UInt8) (i r : Nat) : (rowL S f i r).length = S := by simp [rowL]
theorem rowL_get {S : Nat} {f : Nat → Nat → Nat → UInt8} {i r j : Nat} (h : j < (rowL S f i r).length) : (rowL S f i r)[j] = f i r j := by simp [rowL]
theorem tabL_get {n : Nat} (D S : Nat) (f : Nat → Nat → Nat → UInt8) {i : Nat} (h : i < n) : (tabL n D S f).getD i [] = volL D S f i := by
  rw [List.getD, tabL, range_get _ h]; rfl
theorem range_next {α : Type} (F : Nat → α) (k : Nat) : (List.range k).map F ++ [F k] = (List.range (k + 1)).map F := by simp [List.range_succ]
/-- Volumes that are the call's own. -/
structure OwnSS (w : World) (B : Nat) (A : Option Addr) (n c : Nat) (H : Nat → Option Addr × Nat) (L : List (List (List UInt8))) : Prop where
  top : OwnV 24 w B A n c (hdV H L)
  rows : ∀ i, i < n → OwnV 9 w B (H i).1 (L.getD i []).length (H i).2 ((L.getD i []).map sv)
theorem OwnSS.len {w : World} {B : Nat} {A : Option Addr} {n c : Nat} {H : Nat → Option Addr × Nat} {L : List (List (List UInt8))} (h : OwnSS w B A n c H L) : L.length = n := by rw [← hdV_length H L]; exact h.top.len
theorem OwnSS.rd {w : World} {B : Nat} {A : Option Addr} {n c : Nat} {H : Nat → Option Addr × Nat} {L : List (List (List UInt8))} (h : OwnSS w B A n c H L) : RdSS w w.heap.size A H L :=
  ⟨h.top.rd, fun i hi => (h.rows i (by rw [← h.len]; exact hi)).rd, fun i hi => by have := (h.rows i (by rw [← h.len]; exact hi)).cap; omega⟩
theorem OwnSS.below {w w' : World} {B : Nat} {A : Option Addr} {n c : Nat} {H : Nat → Option Addr × Nat} {L : List (List (List UInt8))} (h : OwnSS w B A n c H L) (hb : Below w.heap.size w w') : OwnSS w' B A n c H L := ⟨h.top.below hb, fun i hi => (h.rows i hi).below hb⟩
theorem OwnSS.less {w : World} {B B' : Nat} {A : Option Addr} {n c : Nat} {H : Nat → Option Addr × Nat} {L : List (List (List UInt8))} (h : OwnSS w B A n c H L) (hB : B' ≤ B) : OwnSS w B' A n c H L := ⟨h.top.less hB, fun i hi => (h.rows i hi).less hB⟩
theorem OwnSS.nil (w : World) (B : Nat) (H : Nat → Option Addr × Nat) : OwnSS w B none 0 0 H [] := ⟨OwnV.nil _ _ _, fun i hi => absurd hi (by omega)⟩
theorem OwnSS.alloc {w : World} {B : Nat} {A : Option Addr} {n c : Nat} {H : Nat → Option Addr × Nat} {L : List (List (List UInt8))} (h : OwnSS w B A n c H L) (o : Obj) : OwnSS (w.alloc o) B A n c H L := ⟨h.top.alloc o, fun i hi => (h.rows i hi).alloc o⟩
theorem getD_snoc_lt {α : Type} {L : List α} {v d : α} {i : Nat} (h : i < L.length) : (L ++ [v]).getD i d = L.getD i d := by
  rw [List.getD, List.getD, List.getElem?_append_left h]
theorem getD_snoc_eq {α : Type} (L : List α) (v d : α) : (L ++ [v]).getD L.length d = v := by
  rw [List.getD, List.getElem?_append_right (Nat.le_refl _), Nat.sub_self]; rfl
theorem hdV_snoc (H : Nat → Option Addr × Nat) (L : List (List (List UInt8))) (v : List (List UInt8)) (h : Option Addr × Nat) : hdV (upd1 H L.length h) (L ++ [v]) = hdV H L ++ [.slice h.1 v.length h.2] := by
  unfold hdV
  rw [List.length_append, List.length_singleton, ← range_next, getD_snoc_eq]
  congr 1
  · exact range_congr fun j hj => by rw [getD_snoc_lt hj]; unfold upd1; rw [if_neg (by omega)]
  · unfold upd1; rw [if_pos rfl]
/-- A volume appended. -/
theorem OwnSS.push {w w' : World} {B : Nat} {A A' : Option Addr} {n c c' : Nat} {H : Nat → Option Addr × Nat} {L : List (List (List UInt8))} {v : List (List UInt8)} {h : Option Addr × Nat} (m : OwnSS w B A n c H L)
    (hrow : OwnV 9 w B h.1 v.length h.2 (v.map sv)) (htop : OwnV 24 w' B A' (n + 1) c' (hdV H L ++ [.slice h.1 v.length h.2])) (hg : w.grownBy w' (Value.slice A n c).ownBlock) : OwnSS w' B A' (n + 1) c' (upd1 H n h) (L ++ [v]) := by
  have hl := m.len
  have keep : ∀ {X : Option Addr} {x y : Nat} {l : List Value}, OwnV 9 w B X x y l → OwnV 9 w' B X x y l := fun {X x y l} hX => hX.grown hg fun gx hgx => by
    subst hgx
    cases A with
    | none => intro e; cases e
    | some a =>
      intro e
      rcases m.top.2.2 with ⟨hv, _⟩ | ⟨g', cap, cur, hv, _⟩
      · cases hv
      · injection hv with hv
        injection hv with hv
        subst hv
        simp only [Value.ownBlock, Option.some.injEq] at e
        exact ownV_apart (by decide) hX m.top e
  refine ⟨by rw [← hl, hdV_snoc]; rw [← hl] at htop; exact htop, fun i hi => ?_⟩
  by_cases e : i = n
  · subst e
    rw [show (L ++ [v]).getD i [] = v by rw [← hl]; exact getD_snoc_eq L v []]
    rw [show upd1 H i h i = h from if_pos rfl]
    exact keep hrow
  · rw [getD_snoc_lt (by omega), show upd1 H n h i = H i from if_neg e]
    exact keep (m.rows i (by omega))

set_option maxRecDepth 100000 in
set_option maxHeartbeats 4000000 in
theorem texts_any (B g c n D S : Nat) (hv : Nat → Nat × Nat) (hr : Nat → Nat → Nat × Nat) (f : Nat → Nat → Nat → UInt8) (w : World) (ht : TabP w B g c n D S n (fun _ _ => true) hv hr f) (hn : n ≤ 200) (hD : D ≤ 64) (hS : S ≤ 512) :
    Calls Try.prog 24 #[.slice (some ⟨g, 0, none⟩) n c] w fun e w' => ∃ (A : Option Addr) (c' : Nat) (H : Nat → Option Addr × Nat), e = .returned (.slice A n c') ∧ OwnSS w' w.heap.size A n c' H (tabL n D S f) ∧ Below w.heap.size w w' := by
  have HT0 := Lib.hid ht
  clear ht
  go_enter Try.func24, Try.ntmps24
  go_wp2_with fail
  go_loopw [3, 11] (fun v i wr => ∃ (k : Nat) (A : Option Addr) (c' : Nat) (H : Nat → Option Addr × Nat), k ≤ n ∧ i = .int .i64 k ∧ v = .slice A k c' ∧ OwnSS wr w.heap.size A k c' H (tabL k D S f) ∧ Below w.heap.size w wr) (fun _ i _ => n - (intOf i).toNat)
  case atStart => exact ⟨0, none, 0, fun _ => (none, 0), Nat.zero_le _, rfl, rfl, OwnSS.nil _ _ _, Below.refl _ _⟩
  case round =>
    obtain ⟨k, A, c', H, hk, rfl, rfl, hown, hbel⟩ := hrel
    have HO := Lib.hid hown
    have HB := Lib.hid hbel
    have hsq := hbel.size
    clear hown
    obtain ⟨wq, rfl⟩ : ∃ wq, wq = wr := ⟨_, rfl⟩
    by_cases hkn : k < n
    · have HT := Lib.hid (HT0.out.below hbel)
      have e1 := HT.out.head hkn hkn
      have HR := Lib.hid (fun r (h : r < D) => HT.out.hrow (i := k) (r := r) hkn h rfl)
      have HC := Lib.hid (fun r (h : r < D) => HT.out.row k r hkn h rfl)
      have HLT := Lib.hid (HT.out.mid k hkn).blkS.2
      have HTL := Lib.hid (range_next (volL D S f) k)
      generalize (hv k).1 = Gv at e1 HR HLT
      generalize (hv k).2 = cv at e1
      have q1 : (0 : Int) ≤ (k : Int) := by omega
      have q2 : (k : Int) < (n : Int) := by omega
      clear hbel
      go_wp2_with fail
      go_loopw [6, 17] (fun v i wr => ∃ (r : Nat) (A2 : Option Addr) (c2 : Nat), r ≤ D ∧ i = .int .i64 r ∧ v = .slice A2 r c2 ∧ OwnV 9 wr wq.heap.size A2 r c2 (((List.range r).map (rowL S f k)).map sv) ∧ Below wq.heap.size wq wr) (fun _ i _ => D - (intOf i).toNat)
      case atStart => exact ⟨0, none, 0, Nat.zero_le _, rfl, rfl, OwnV.nil _ _ _, Below.refl _ _⟩
      case round =>
        obtain ⟨r, A2, c2, hrD, rfl, rfl, hown2, hbel2⟩ := hrel
        have HO2 := Lib.hid hown2
        have HB2 := Lib.hid hbel2
        have hs2 := hbel2.size
        clear hown2
        by_cases hrn : r < D
        · have e2 := (hbel2.cell (p := ⟨Gv, r, none⟩) HLT.out).trans (HR.out r hrn)
          have HCR := Lib.hid ((HC.out r hrn).below hbel2)
          have HN := Lib.hid (range_next (rowL S f k) r)
          have hcv := run_convert_bytes_back (P := Try.prog) wr 26 9 5 ⟨(hr k r).1, 0, none⟩ (hr k r).2 (rowL S f k r) Try.underlying26 Try.underlying5 Try.underlying9 (fun j hj => by
            have hj' := hj
            rw [rowL_length] at hj'
            rw [addr_add, Nat.zero_add, rowL_get]
            exact HCR.out.cell (range_get (fun a => bv (f k r a)) hj'))
          rw [rowL_length] at hcv
          generalize (hr k r).1 = Gr at e2 hcv
          generalize (hr k r).2 = cr at e2 hcv
          generalize rowL S f k r = x at hcv HN
          have q3 : (0 : Int) ≤ (r : Int) := by omega
          have q4 : (r : Int) < (D : Int) := by omega
          clear hbel2 HCR
          go_wp2_with (at_builtin; refine wpList_pushV str_el _ rfl _ _ rfl wq.heap.size _ _ _ _ rfl (HO2.out.alloc _) wr.heap.size 1 (sv x) rfl rfl (by unfold sv; go_cell) (by omega) (by simp; omega) ?_; intro A3 c3 w3 hown3 hb3 hg3)
          go_roundw
          case rel => exact ⟨r + 1, A3, c3, by omega, by go_num, rfl, by rw [← HN.out, List.map_append]; exact hown3, (HB2.out.alloc hs2 _).trans hb3⟩
          case measure => simp only [intOf]; omega
        · obtain rfl : r = D := by omega
          have HO4 := Lib.hid (HO.out.below hbel2)
          have HO5 := Lib.hid (show OwnV 9 wr w.heap.size A2 (volL r S f k).length c2 ((volL r S f k).map sv) by rw [volL_length]; exact HO2.out.less hsq)
          have HB5 := Lib.hid (bstep HB.out (Nat.le_refl _) hbel2)
          have hs5 := HB5.out.size
          have HVL := Lib.hid (volL_length r S f k)
          clear hbel2 HO2 HB2 HB HO
          go_wp2_with (at_builtin; refine wpList_pushV strs_el _ rfl _ _ rfl w.heap.size _ _ _ _ rfl (HO4.out.top.alloc _) wr.heap.size 1 (.slice A2 r c2) rfl rfl (by go_cell) (by omega) (by simp; omega) ?_; intro A3 c3 w3 hown3 hb3 hg3)
          have hown4 : OwnV 24 w3 w.heap.size A3 (k + 1) c3 (hdV H (tabL k r S f) ++ [.slice A2 (volL r S f k).length c2]) := by rw [HVL.out]; exact hown3
          have hp := (HO4.out.alloc (.cells #[.slice A2 r c2] 24)).push (h := (A2, c2)) (HO5.out.alloc _) hown4 hg3
          go_roundw
          case rel => exact ⟨k + 1, A3, c3, _, by omega, by go_num, rfl, by rw [show tabL (k + 1) r S f = tabL k r S f ++ [volL r S f k] from HTL.out.symm]; exact hp, (HB5.out.alloc hs5 _).trans hb3⟩
          case measure => simp only [intOf]; omega
    · obtain rfl : k = n := by omega
      go_wp2_with fail
      go_ret
      exact ⟨A, c', H, rfl, HO.out, HB.out⟩
end Go.Proofs.Ythejbmjleohlfaa
