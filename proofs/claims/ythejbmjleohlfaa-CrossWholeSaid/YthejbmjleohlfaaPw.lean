/- The walks of the polynomials: copies, shortening, sums, products, slopes, roots. -/
import Derived.Test.YthejbmjleohlfaaOw
import Derived.Test.YthejbmjleohlfaaPm
import Derived.WalkSpells
namespace Go.Proofs.Ythejbmjleohlfaa
open Go.RowKit

/-- Handed back: a slice that the call made. -/
def RetPol (w : World) (l : List F) (e : Ending) (w' : World) : Prop := ∃ A c, e = .returned (.slice A l.length c) ∧ Own w' w.heap.size A l.length c l ∧ Below w.heap.size w w'
theorem RetPol.none (w : World) : RetPol w [] (.returned (.slice none 0 0)) w := ⟨Option.none, 0, rfl, Own.nil _ _, Below.refl _ _⟩

theorem Rd.take {w : World} {B : Nat} {A : Option Addr} {l : List F} (h : Rd w B A l) (k : Nat) : Rd w B A (l.take k) := fun h0 => by
  rw [List.length_take] at h0
  obtain ⟨b, off, hA, hlt, hc⟩ := h (by omega)
  refine ⟨b, off, hA, hlt, fun j hj => ?_⟩
  rw [List.length_take] at hj
  rw [hc j (by omega)]
  simp only [List.getD, List.getElem?_take, if_pos (show j < k by omega)]

set_option maxHeartbeats 2000000 in
theorem clone_any (A : Option Addr) (n c : Nat) (l : List F) (w : World) (hl : l.length = n) (hrd : Rd w w.heap.size A l) (hn : n ≤ 100000) :
    Calls Try.prog 41 #[.slice A n c] w (RetPol w l) := by
  have he : ∀ w : World, (binOp .eql 58 (.slice A n c) (.slice none 0 0)).run Try.prog w = .ok (.bool A.isNone) w := fun w => Lib.run_eql_slice_nil _ _ _ _ _ _ _ _ Try.underlying58
  cases A with
  | none =>
    have h0 : l = [] := by
      rcases Nat.eq_zero_or_pos l.length with h | h
      · exact List.eq_nil_of_length_eq_zero h
      · obtain ⟨b, off, e, _⟩ := hrd h
        cases e
    subst h0
    clear hrd
    go_enter Try.func41, Try.ntmps41
    go_wp2
    go_ret
    exact RetPol.none w
  | some A =>
    have HL := Lib.hid hl
    have HRD := Lib.hid hrd
    clear hl hrd
    go_enter Try.func41, Try.ntmps41
    go_wp2_with (at_builtin; refine wpList_ext _ rfl _ _ rfl w.heap.size _ 0 0 [] rfl (Own.lit w w.heap.size [] _ (Nat.le_refl _) (by decide) rfl) (some A) n c w.heap.size l rfl HL.out (by exact HRD.out.below (balloc _ _)) (by omega) (by simp) ?_; intro A' c' w1 hown hb hg)
    go_ret
    rw [List.nil_append, Nat.zero_add] at hown
    have hlen := HL.out
    subst hlen
    exact ⟨A', c', rfl, hown, (balloc w _).trans hb⟩

set_option maxRecDepth 100000 in
set_option maxHeartbeats 2000000 in
theorem short_any (A : Option Addr) (n c : Nat) (l : List F) (w : World) (hl : l.length = n) (hrd : Rd w w.heap.size A l) (hn : n ≤ 100000) (hnc : n ≤ c) :
    Calls Try.prog 68 #[.slice A n c] w (RetPol w (shortL l)) := by
  have HL := Lib.hid hl
  have HRD := Lib.hid hrd
  clear hl hrd
  go_enter Try.func68, Try.ntmps68
  go_wp2
  go_loopw [0] (fun p wr => wr = w ∧ ∃ (k m : Nat), k ≤ n ∧ k ≤ m ∧ p = .slice A k m ∧ ∀ j, k ≤ j → l.getD j 0 = 0) (fun p _ => match p with | .slice _ k _ => k | _ => 0)
  case atStart => exact ⟨rfl, n, c, Nat.le_refl _, hnc, rfl, fun j hj => getD_beyond (by rw [HL.out]; exact hj)⟩
  case round =>
    obtain ⟨rfl, k, m, hk, hkm, rfl, h0⟩ := hrel
    have H0 := Lib.hid h0
    clear h0
    by_cases hk0 : k = 0
    · subst hk0
      go_wp2_with (go_at_call 41; refine (clone_any A 0 m (l.take 0) wr rfl (by exact HRD.out.take 0) (by omega)).mono ?_; rintro e w' ⟨A', c', rfl, hown, hb⟩)
      go_ret
      have e := shortL_take (k := 0) (Nat.zero_le _) H0.out (fun h => absurd h (by omega))
      rw [← e]
      exact ⟨A', c', rfl, hown, hb⟩
    · obtain ⟨b, off, rfl, hb, hc⟩ := HRD.out (by rw [HL.out]; omega)
      have c1 := hc (k - 1) (by rw [HL.out]; omega)
      have HC := Lib.hid hc
      clear hc
      have q1 : (0 : Int) ≤ (k : Int) - 1 := by omega
      have q2 : (k : Int) - 1 < (k : Int) := by omega
      have q5 : (k : Int) - 1 ≤ (m : Int) := by omega
      have q3 : ((k : Int) - 1).toNat = k - 1 := by omega
      have q4 : IntKind.i64.wrap ((k : Int) - 1) = (k : Int) - 1 := IntWalk.i64_in _ ⟨by omega, by omega⟩
      by_cases hz : l.getD (k - 1) 0 = 0
      · have HZ := Lib.hid hz
        rw [hz] at c1
        clear hz
        go_wp2
        go_roundw
        case rel => exact ⟨trivial, k - 1, m, by omega, by omega, rfl, fun j hj => by
          by_cases e : j = k - 1
          · rw [e]; exact HZ.out
          · exact H0.out j (by omega)⟩
        case measure => show k - 1 < k; omega
      · have hz' := feq0' hz
        have HZ := Lib.hid hz
        clear hz
        generalize hx : l.getD (k - 1) 0 = x at c1 hz'
        clear hx
        go_wp2_with (go_at_call 41; refine (clone_any _ k m (l.take k) wr (by rw [List.length_take, HL.out]; omega) (by exact HRD.out.take k) (by omega)).mono ?_; rintro e w' ⟨A', c', rfl, hown, hb⟩)
        go_ret
        have e := shortL_take (k := k) (by rw [HL.out]; exact hk) H0.out (fun _ => HZ.out)
        rw [← e]
        exact ⟨A', c', by rw [List.length_take]; rfl, hown, hb⟩

theorem Own.less {w : World} {B B' n c : Nat} {A : Option Addr} {l : List F} (h : Own w B A n c l) (hB : B' ≤ B) : Own w B' A n c l := by
  refine ⟨h.1, h.2.1, ?_⟩
  rcases h.2.2 with h | ⟨g', cap, cur, hv, hb, h⟩
  · exact .inl h
  · exact .inr ⟨g', cap, cur, hv, Nat.le_trans hB hb, h⟩
/-- Nothing has turned but block g. -/
structure Spare (g : Nat) (w w' : World) : Prop where
  below : Below g w w'
  size : w'.heap.size = w.heap.size
  heap : ∀ k, k ≠ g → w'.heap[k]? = w.heap[k]?
theorem Spare.refl (g : Nat) (w : World) : Spare g w w := ⟨Below.refl _ _, rfl, fun _ _ => rfl⟩
theorem Spare.trans {g : Nat} {a b c : World} (h : Spare g a b) (k : Spare g b c) : Spare g a c := ⟨h.below.trans k.below, k.size.trans h.size, fun i hi => (k.heap i hi).trans (h.heap i hi)⟩
theorem Spare.drew {g : Nat} {a w : World} (h : Spare g a w) : Spare g a w.drew := ⟨h.below.drew, h.size, h.heap⟩
theorem Spare.setCell {g : Nat} {a w : World} (h : Spare g a w) (j : Nat) (u : Value) : Spare g a (w.setCell ⟨g, j, none⟩ u) :=
  ⟨h.below.setCell (p := ⟨g, j, none⟩) (Nat.le_refl _) u, by rw [World.size_setCell]; exact h.size, fun k hk => (Below.heap_setCell w ⟨g, j, none⟩ u k hk).trans (h.heap k hk)⟩
theorem Spare.out {g B : Nat} {w w' : World} (h : Spare g w w') (hB : B ≤ g) : Below B w w' := h.below.mono hB
theorem Own.spare {w w' : World} {B n c g g' : Nat} {l : List F} (h : Own w B (some ⟨g', 0, none⟩) n c l) (hs : Spare g w w') (hg : g' ≠ g) : Own w' B (some ⟨g', 0, none⟩) n c l := by
  refine ⟨h.1, h.2.1, ?_⟩
  rcases h.2.2 with h2 | ⟨g2, cap, cur, hv, hb, h2, h3⟩
  · exact .inl h2
  · have hv2 := hv
    injection hv2 with e; injection e with e; injection e with e
    subst e
    exact .inr ⟨g', cap, cur, hv, hb, by rw [hs.heap g' hg]; exact h2, h3⟩
/-- A slice reads as a list, and lies in another block than g. -/
def RdN (w : World) (g : Nat) (A : Option Addr) (l : List F) : Prop :=
  0 < l.length → ∃ b off, A = some ⟨b, off, none⟩ ∧ b ≠ g ∧ ∀ j, j < l.length → w.cell? ⟨b, off + j, none⟩ = some (.int .u16 (l.getD j 0).nat)
theorem Rd.rdN {w : World} {B g : Nat} {A : Option Addr} {l : List F} (h : Rd w B A l) (hB : B ≤ g) : RdN w g A l := fun h0 => by
  obtain ⟨b, off, hA, hlt, hc⟩ := h h0
  exact ⟨b, off, hA, by omega, hc⟩
theorem RdN.spare {w w' : World} {g : Nat} {A : Option Addr} {l : List F} (h : RdN w g A l) (hs : Spare g w w') : RdN w' g A l := fun h0 => by
  obtain ⟨b, off, hA, hlt, hc⟩ := h h0
  exact ⟨b, off, hA, hlt, fun j hj => (World.cell?_of_block (w := w) (a := ⟨b, off + j, none⟩) (hs.heap b hlt)).trans (hc j hj)⟩
theorem addAt_next {to p : List F} {k i : Nat} {y a : F} (hi : i < p.length) (hl : k + i < to.length) (ha : a = (addAt to (p.take i) k y).getD (k + i) 0 + p.getD i 0 * y) :
    (addAt to (p.take i) k y).set (k + i) a = addAt to (p.take (i + 1)) k y := by
  refine tab_ext (by rw [List.length_set, addAt_length]) fun j hj => ?_
  by_cases e : k + i = j
  · subst e
    rw [getD_set_eq _ (by rw [addAt_length]; exact hl), ha, addAt_getD _ _ _ _ _ (by rw [List.length_take]; omega), if_pos (by omega), if_pos (by omega), Nat.add_sub_cancel_left, getD_take, getD_take, if_neg (by omega), if_pos (by omega), F.zero_mul, F.add_zero]
  · rw [getD_set_ne _ e, addAt_getD _ _ _ _ _ (by rw [List.length_take]; omega)]
    by_cases h : k ≤ j
    · rw [if_pos h, if_pos h, getD_take, getD_take]
      by_cases h2 : j - k < i
      · rw [if_pos h2, if_pos (by omega)]
      · rw [if_neg h2, if_neg (by omega)]
    · rw [if_neg h, if_neg h]

set_option maxRecDepth 100000 in
set_option maxHeartbeats 4000000 in
theorem into_any (pf : Option Addr) (B g N c : Nat) (to p : List F) (Ap : Option Addr) (m cp k : Nat) (y : F) (w : World) (hown : Own w B (some ⟨g, 0, none⟩) N c to) (hp : p.length = m) (hrd : RdN w g Ap p) (hk : k + m ≤ N) (hN : N ≤ 100000) :
    Calls Try.prog 73 #[.pointer pf, .slice (some ⟨g, 0, none⟩) N c, .slice Ap m cp, .int .i64 k, .int .u16 y.nat] w fun e w' => (∃ v, e = .returned v) ∧ Own w' B (some ⟨g, 0, none⟩) N c (addAt to p k y) ∧ Spare g w w' := by
  have HP := Lib.hid hp
  have HRD := Lib.hid hrd
  have hto := Lib.hid hown.len
  clear hp hrd
  go_enter Try.func73, Try.ntmps73
  go_wp2
  go_loopw [17] (fun v wr => ∃ i : Nat, i ≤ m ∧ v = .int .i64 i ∧ Own wr B (some ⟨g, 0, none⟩) N c (addAt to (p.take i) k y) ∧ Spare g w wr) (fun v _ => m - (intOf v).toNat)
  case atStart => exact ⟨0, by omega, rfl, by rw [addAt_start]; exact hown, Spare.refl _ _⟩
  case round =>
    obtain ⟨i, hi, rfl, ho, hs⟩ := hrel
    have HS := Lib.hid hs
    by_cases him : i < m
    · obtain ⟨b, off, rfl, hb, hc⟩ := (HRD.out.spare hs) (by rw [HP.out]; omega)
      have c1 := hc i (by rw [HP.out]; exact him)
      have c2 := ho.cell (j := k + i) (by omega)
      have hfz := ho.frozen (k + i)
      have HX := Lib.hid (addAt_next (to := to) (p := p) (k := k) (i := i) (y := y) (by rw [HP.out]; exact him) (by rw [hto.out]; omega) rfl)
      have HO := Lib.hid ho
      clear hc hs ho hown
      generalize addAt to (p.take i) k y = cur at c2 HX HO
      generalize cur.getD (k + i) 0 = x2 at c2 HX
      generalize p.getD i 0 = x1 at c1 HX
      have q1 : (0 : Int) ≤ (k : Int) + (i : Int) := by omega
      have q2 : (k : Int) + (i : Int) < (N : Int) := by omega
      have q3 : ((k : Int) + (i : Int)).toNat = k + i := by omega
      have q4 : IntKind.i64.wrap ((k : Int) + (i : Int)) = (k : Int) + (i : Int) := IntWalk.i64_in _ ⟨by omega, by omega⟩
      go_wp2
      refine region_tail 12 (by kernel_rfl) (by kernel_rfl) ?_
      simp only [List.take_succ_cons, List.take_zero, List.drop_succ_cons, List.drop_zero]
      repeat (first
        | still_step
        | still_call (stillOf (mul_any _ _ _ x1 y _ rfl rfl)))
      refine wpStill_nil ?_
      go_wp2
      go_roundw
      case rel => exact ⟨i + 1, by omega, by go_num, by rw [← HX.out]; exact (HO.out.store (k + i) _ (bits_xor _ _)).drew, (HS.out.setCell _ _).drew⟩
      case measure => simp only [intOf]; omega
    · obtain rfl : i = m := by omega
      have e : p.take i = p := List.take_of_length_le (by rw [HP.out]; omega)
      rw [e] at ho
      go_wp2
      go_end0
      exact ⟨⟨_, rfl⟩, ho, HS.out⟩

theorem pv_take {l : List F} {i : Nat} (hi : i < l.length) (x : F) : pv (l.take (i + 1)) x = pv (l.take i) x + F.pow x i * l.getD i 0 := by
  rw [List.take_succ_eq_append_getElem hi, pv_snoc, List.length_take, Nat.min_eq_left (by omega), List.getD, List.getElem?_eq_getElem hi]
  rfl
set_option maxRecDepth 100000 in
set_option maxHeartbeats 4000000 in
theorem pmul_any (A1 A2 : Option Addr) (n1 n2 c1 c2 : Nat) (l1 l2 : List F) (w : World) (h1 : l1.length = n1) (h2 : l2.length = n2) (hr1 : Rd w w.heap.size A1 l1) (hr2 : Rd w w.heap.size A2 l2) (hn : n1 + n2 ≤ 60000) :
    Calls Try.prog 63 #[.slice A1 n1 c1, .slice A2 n2 c2] w (RetPol w (mulL l1 l2)) := by
  by_cases h0 : n1 = 0
  · obtain rfl : l1 = [] := List.eq_nil_of_length_eq_zero (by omega)
    subst h0
    clear hr1 hr2
    go_enter Try.func63, Try.ntmps63
    go_wp2
    go_ret
    exact RetPol.none w
  by_cases h0' : n2 = 0
  · obtain rfl : l2 = [] := List.eq_nil_of_length_eq_zero (by omega)
    subst h0'
    clear hr1 hr2
    go_enter Try.func63, Try.ntmps63
    go_wp2
    go_ret
    rw [mulL_nil]
    exact RetPol.none w
  have H1 := Lib.hid h1
  have H2 := Lib.hid h2
  have R1 := Lib.hid hr1
  have R2 := Lib.hid hr2
  have t1 : ((n1 : Int) == 0) = false := by rw [beq_eq_false_iff_ne]; omega
  have t2 : ((n2 : Int) == 0) = false := by rw [beq_eq_false_iff_ne]; omega
  clear h1 h2 hr1 hr2
  obtain ⟨N, hN⟩ : ∃ N, N = n1 + n2 - 1 := ⟨_, rfl⟩
  have q1 : (n1 : Int) + (n2 : Int) - 1 = (N : Int) := by omega
  have q2 : IntKind.i64.wrap ((n1 : Int) + (n2 : Int)) = (n1 : Int) + (n2 : Int) := IntWalk.i64_in _ ⟨by omega, by omega⟩
  have q3 : IntKind.i64.wrap ((n1 : Int) + (n2 : Int) - 1) = (N : Int) := by rw [q1]; exact IntWalk.i64_in _ ⟨by omega, by omega⟩
  have hN1 : N + 1 = n1 + n2 := by omega
  clear hN
  go_enter Try.func63, Try.ntmps63
  go_wp2_with (first
    | (go_at_call 33; refine (new_any _).mono ?_; rintro e w' ⟨rfl, rfl⟩)
    | (at_make; refine wpList_mk _ rfl _ _ rfl w.heap.size _ _ N rfl rfl (by omega) (by omega) (by omega) (by simp) ?_; intro w1 hown hg))
  have hbel : Below w.heap.size w w1 := (balloc w _).grown hg (by simp) (by simp)
  rw [World.size_alloc] at hown
  clear hg
  have HZ := Lib.hid (show ∀ x, pv (List.replicate N 0) x = pv (l1.take 0) x * pv l2 x from fun x => by rw [pv_zeros]; exact (F.zero_mul _).symm)
  generalize List.replicate N (0 : F) = cur0 at hown HZ
  go_loopw [27] (fun v wr => ∃ (i : Nat) (cur : List F), i ≤ n1 ∧ v = .int .i64 i ∧ Own wr w.heap.size (some ⟨w.heap.size + 1, 0, none⟩) N N cur ∧ (∀ x, pv cur x = pv (l1.take i) x * pv l2 x) ∧ Below w.heap.size w wr) (fun v _ => n1 - (intOf v).toNat)
  case atStart => exact ⟨0, cur0, by omega, rfl, hown, HZ.out, hbel⟩
  case round =>
    obtain ⟨i, cur, hi, rfl, ho, hv, hb⟩ := hrel
    have HV := Lib.hid hv
    have HO := Lib.hid ho
    have HB := Lib.hid hb
    clear hv ho hown hbel HZ
    by_cases hin : i < n1
    · obtain ⟨b, off, rfl, hlt, hc⟩ := (R1.out.below hb) (by rw [H1.out]; omega)
      have cc := hc i (by rw [H1.out]; exact hin)
      have HT := Lib.hid (fun x => pv_take (l := l1) (i := i) (by rw [H1.out]; exact hin) x)
      clear hc hb
      generalize l1.getD i 0 = y at cc HT
      go_wp2_with (go_at_call 73; refine (into_any _ w.heap.size (w.heap.size + 1) N N cur l2 A2 n2 c2 i y _ HO.out H2.out (by exact (R2.out.below HB.out).rdN (by omega)) (by omega) (by omega)).mono ?_; rintro e w' ⟨⟨v, rfl⟩, ho, hsp⟩)
      go_roundw
      case rel => exact ⟨i + 1, _, by omega, by go_num, ho, fun x => by rw [pv_addAt _ _ _ _ _ (by rw [HO.out.len, H2.out]; omega), HV.out, HT.out, F.add_mul, F.mul_assoc (F.pow x i), F.mul_comm y], HB.out.trans (hsp.out (by omega))⟩
      case measure => simp only [intOf]; omega
    · obtain rfl : i = n1 := by omega
      have e : l1.take i = l1 := List.take_of_length_le (by rw [H1.out]; omega)
      clear hb
      go_wp2_with (go_at_call 68; refine (short_any _ N N cur _ HO.out.len (by exact HO.out.rd) (by omega) (Nat.le_refl _)).mono ?_; rintro e w' ⟨A', c', rfl, hown', hb'⟩)
      go_ret
      have hv := HV.out
      rw [e] at hv
      rw [← mulL_eq (by rw [H1.out, H2.out]; omega) (by rw [HO.out.len]; omega) hv]
      exact ⟨A', c', rfl, Own.less hown' HB.out.size, bstep HB.out (Nat.le_refl _) hb'⟩

theorem addAt_sum (a b : List F) (h : b.length ≤ a.length) : shortL (addAt a b 0 1) = addL a b := shortL_same fun j => by
  rw [addAt_getD _ _ _ _ _ (by omega), if_pos (Nat.zero_le _), F.mul_one, addR_getD]; rfl
set_option maxRecDepth 100000 in
set_option maxHeartbeats 4000000 in
theorem padd_ge (A1 A2 : Option Addr) (n1 n2 c1 c2 : Nat) (l1 l2 : List F) (w : World) (h1 : l1.length = n1) (h2 : l2.length = n2) (hr1 : Rd w w.heap.size A1 l1) (hr2 : Rd w w.heap.size A2 l2) (hn : n1 ≤ 60000) (hle : n2 ≤ n1) :
    Calls Try.prog 67 #[.slice A1 n1 c1, .slice A2 n2 c2] w (RetPol w (addL l1 l2)) := by
  have H1 := Lib.hid h1
  have H2 := Lib.hid h2
  have R1 := Lib.hid hr1
  have R2 := Lib.hid hr2
  clear h1 h2 hr1 hr2
  go_enter Try.func67, Try.ntmps67
  go_wp2_with (go_at_call 41; refine (clone_any A1 n1 c1 l1 _ H1.out R1.out (by omega)).mono ?_; rintro e w' ⟨A', c', rfl, hown, hbel⟩)
  rw [H1.out] at hown
  rw [H1.out]
  go_loopw [19] (fun v wr => ∃ (i : Nat), i ≤ n2 ∧ v = .int .i64 i ∧ Own wr w.heap.size A' n1 c' (addAt l1 (l2.take i) 0 1) ∧ Below w.heap.size w wr) (fun v _ => n2 - (intOf v).toNat)
  case atStart => exact ⟨0, by omega, rfl, by rw [addAt_start]; exact hown, hbel⟩
  case round =>
    obtain ⟨i, hi, rfl, ho, hb⟩ := hrel
    have HB := Lib.hid hb
    have HO := Lib.hid ho
    clear ho hown hbel
    by_cases hin : i < n2
    · obtain ⟨b, off, rfl, hlt, hc⟩ := (R2.out.below hb) (by rw [H2.out]; omega)
      obtain ⟨g, rfl, hg, _⟩ := HO.out.form (by omega)
      have cc := hc i (by rw [H2.out]; exact hin)
      have c2' := HO.out.cell (j := i) (by omega)
      have hfz := HO.out.frozen i
      have HX := Lib.hid (addAt_next (to := l1) (p := l2) (k := 0) (i := i) (y := 1) (by rw [H2.out]; exact hin) (by rw [H1.out]; omega) rfl)
      rw [Nat.zero_add, F.mul_one] at HX
      clear hc hb
      generalize addAt l1 (l2.take i) 0 1 = cur at c2' HX HO
      generalize cur.getD i 0 = x2 at c2' HX
      generalize l2.getD i 0 = x1 at cc HX
      have q2 : (i : Int) < (n1 : Int) := by omega
      go_wp2
      go_roundw
      case rel => exact ⟨i + 1, by omega, by go_num, by rw [← HX.out]; exact HO.out.store i _ (bits_xor _ _), HB.out.setCell (p := ⟨g, i, none⟩) hg _⟩
      case measure => simp only [intOf]; omega
    · obtain rfl : i = n2 := by omega
      have e : l2.take i = l2 := List.take_of_length_le (by rw [H2.out]; omega)
      rw [e] at HO
      clear hb
      go_wp2_with (go_at_call 68; refine (short_any A' n1 c' (addAt l1 l2 0 1) _ (by rw [addAt_length, H1.out]) (by exact HO.out.rd) (by omega) HO.out.cap.1).mono ?_; rintro e w' ⟨A2', c2', rfl, hown', hb'⟩)
      go_ret
      rw [← addAt_sum l1 l2 (by rw [H1.out, H2.out]; omega)]
      exact ⟨A2', c2', rfl, Own.less hown' HB.out.size, bstep HB.out (Nat.le_refl _) hb'⟩
set_option maxRecDepth 100000 in
set_option maxHeartbeats 4000000 in
theorem padd_lt (A1 A2 : Option Addr) (n1 n2 c1 c2 : Nat) (l1 l2 : List F) (w : World) (h1 : l1.length = n1) (h2 : l2.length = n2) (hr1 : Rd w w.heap.size A1 l1) (hr2 : Rd w w.heap.size A2 l2) (hn : n1 ≤ 60000) (hle : n2 < n1) :
    Calls Try.prog 67 #[.slice A2 n2 c2, .slice A1 n1 c1] w (RetPol w (addL l1 l2)) := by
  have H1 := Lib.hid h1
  have H2 := Lib.hid h2
  have R1 := Lib.hid hr1
  have R2 := Lib.hid hr2
  clear h1 h2 hr1 hr2
  go_enter Try.func67, Try.ntmps67
  go_wp2_with (go_at_call 41; refine (clone_any A1 n1 c1 l1 _ H1.out R1.out (by omega)).mono ?_; rintro e w' ⟨A', c', rfl, hown, hbel⟩)
  rw [H1.out] at hown
  rw [H1.out]
  go_loopw [19] (fun v wr => ∃ (i : Nat), i ≤ n2 ∧ v = .int .i64 i ∧ Own wr w.heap.size A' n1 c' (addAt l1 (l2.take i) 0 1) ∧ Below w.heap.size w wr) (fun v _ => n2 - (intOf v).toNat)
  case atStart => exact ⟨0, by omega, rfl, by rw [addAt_start]; exact hown, hbel⟩
  case round =>
    obtain ⟨i, hi, rfl, ho, hb⟩ := hrel
    have HB := Lib.hid hb
    have HO := Lib.hid ho
    clear ho hown hbel
    by_cases hin : i < n2
    · obtain ⟨b, off, rfl, hlt, hc⟩ := (R2.out.below hb) (by rw [H2.out]; omega)
      obtain ⟨g, rfl, hg, _⟩ := HO.out.form (by omega)
      have cc := hc i (by rw [H2.out]; exact hin)
      have c2' := HO.out.cell (j := i) (by omega)
      have hfz := HO.out.frozen i
      have HX := Lib.hid (addAt_next (to := l1) (p := l2) (k := 0) (i := i) (y := 1) (by rw [H2.out]; exact hin) (by rw [H1.out]; omega) rfl)
      rw [Nat.zero_add, F.mul_one] at HX
      clear hc hb
      generalize addAt l1 (l2.take i) 0 1 = cur at c2' HX HO
      generalize cur.getD i 0 = x2 at c2' HX
      generalize l2.getD i 0 = x1 at cc HX
      have q2 : (i : Int) < (n1 : Int) := by omega
      go_wp2
      go_roundw
      case rel => exact ⟨i + 1, by omega, by go_num, by rw [← HX.out]; exact HO.out.store i _ (bits_xor _ _), HB.out.setCell (p := ⟨g, i, none⟩) hg _⟩
      case measure => simp only [intOf]; omega
    · obtain rfl : i = n2 := by omega
      have e : l2.take i = l2 := List.take_of_length_le (by rw [H2.out]; omega)
      rw [e] at HO
      clear hb
      go_wp2_with (go_at_call 68; refine (short_any A' n1 c' (addAt l1 l2 0 1) _ (by rw [addAt_length, H1.out]) (by exact HO.out.rd) (by omega) HO.out.cap.1).mono ?_; rintro e w' ⟨A2', c2', rfl, hown', hb'⟩)
      go_ret
      rw [← addAt_sum l1 l2 (by rw [H1.out, H2.out]; omega)]
      exact ⟨A2', c2', rfl, Own.less hown' HB.out.size, bstep HB.out (Nat.le_refl _) hb'⟩

theorem padd_any (A1 A2 : Option Addr) (n1 n2 c1 c2 : Nat) (l1 l2 : List F) (w : World) (h1 : l1.length = n1) (h2 : l2.length = n2) (hr1 : Rd w w.heap.size A1 l1) (hr2 : Rd w w.heap.size A2 l2) (hn1 : n1 ≤ 60000) (hn2 : n2 ≤ 60000) :
    Calls Try.prog 67 #[.slice A1 n1 c1, .slice A2 n2 c2] w (RetPol w (addL l1 l2)) := by
  by_cases h : n1 < n2
  · rw [addL_comm]
    exact padd_lt A2 A1 n2 n1 c2 c1 l2 l1 w h2 h1 hr2 hr1 hn2 h
  · exact padd_ge A1 A2 n1 n2 c1 c2 l1 l2 w h1 h2 hr1 hr2 hn1 (by omega)
end Go.Proofs.Ythejbmjleohlfaa
