/- The walks of the document's polynomials. -/
import Derived.Test.YtneciddigglnmaaPl2
import Derived.Test.YtneciddigglnmaaRw
namespace Go.Proofs.Ytneciddigglnmaa
open Go.RowKit

set_option maxRecDepth 100000 in
set_option maxHeartbeats 2000000 in
theorem rshort_any (A : Option Addr) (n c : Nat) (l : List F) (w : World) (hl : l.length = n) (hrd : Rd w w.heap.size A l) (hn : n ≤ 100000) (hnc : n ≤ c) :
    Calls Try.prog 19 #[.slice A n c] w (RetPol w (shortL l)) := by
  have HL := Lib.hid hl
  have HRD := Lib.hid hrd
  clear hl hrd
  go_enter Try.func19, Try.ntmps19
  go_wp2
  go_loopw [3] (fun p wr => wr = w ∧ ∃ (k : Nat), k ≤ n ∧ p = .int .i64 k ∧ ∀ j, k ≤ j → l.getD j 0 = 0) (fun p _ => (intOf p).toNat)
  case atStart => exact ⟨rfl, n, Nat.le_refl _, rfl, fun j hj => getD_beyond (by rw [HL.out]; exact hj)⟩
  case round =>
    obtain ⟨rfl, k, hk, rfl, h0⟩ := hrel
    have H0 := Lib.hid h0
    clear h0
    have z1 : (0 : Int) ≤ (k : Int) := by omega
    have z2 : (k : Int) ≤ (c : Int) := by omega
    by_cases hk0 : k = 0
    · subst hk0
      go_wp2_with (at_builtin; refine wpList_ext _ rfl _ _ rfl wr.heap.size _ 0 0 [] rfl (Own.lit wr wr.heap.size [] _ (Nat.le_refl _) (by decide) rfl) A 0 c wr.heap.size (l.take 0) rfl rfl (by exact (HRD.out.take 0).below (balloc _ _)) (by omega) (by simp) ?_; intro A' c' w1 hown hb hg)
      go_ret
      have e := shortL_take (k := 0) (Nat.zero_le _) H0.out (fun h => absurd h (by omega))
      rw [← e]
      exact ⟨A', c', rfl, hown, (balloc wr _).trans hb⟩
    · obtain ⟨b, off, rfl, hb, hc⟩ := HRD.out (by rw [HL.out]; omega)
      have c1 := hc (k - 1) (by rw [HL.out]; omega)
      clear hc
      have q1 : (0 : Int) ≤ (k : Int) - 1 := by omega
      have q2 : (k : Int) - 1 < (n : Int) := by omega
      have q3 : ((k : Int) - 1).toNat = k - 1 := by omega
      have q4 : IntKind.i64.wrap ((k : Int) - 1) = (k : Int) - 1 := IntWalk.i64_in _ ⟨by omega, by omega⟩
      by_cases hz : l.getD (k - 1) 0 = 0
      · have HZ := Lib.hid hz
        rw [hz] at c1
        clear hz
        go_wp2
        go_roundw
        case rel => exact ⟨trivial, k - 1, by omega, by congr 1; omega, fun j hj => by
          by_cases e : j = k - 1
          · rw [e]; exact HZ.out
          · exact H0.out j (by omega)⟩
        case measure => simp only [intOf]; omega
      · have hz' := feq0' hz
        have HZ := Lib.hid hz
        clear hz
        generalize hx : l.getD (k - 1) 0 = x at c1 hz'
        clear hx
        go_wp2_with (at_builtin; refine wpList_ext _ rfl _ _ rfl wr.heap.size _ 0 0 [] rfl (Own.lit wr wr.heap.size [] _ (Nat.le_refl _) (by decide) rfl) _ k c wr.heap.size (l.take k) rfl (by rw [List.length_take, HL.out]; omega) (by exact (HRD.out.take k).below (balloc _ _)) (by omega) (by simp) ?_; intro A' c' w1 hown hb hg)
        go_ret
        have e := shortL_take (k := k) (by rw [HL.out]; exact hk) H0.out (fun _ => HZ.out)
        rw [← e]
        have hlt : (l.take k).length = k := by rw [List.length_take, HL.out]; omega
        refine ⟨A', c', ?_, ?_, (balloc wr _).trans hb⟩
        · rw [hlt]; congr 2
        · rw [hlt]; rw [Nat.zero_add, List.nil_append] at hown; exact hown

theorem tab_snoc (f : Nat → F) (i : Nat) : tab i f ++ [f i] = tab (i + 1) f := by simp [tab, List.range_succ]

set_option maxRecDepth 100000 in
set_option maxHeartbeats 4000000 in
theorem radd_any (A1 A2 : Option Addr) (n1 n2 c1 c2 : Nat) (l1 l2 : List F) (w : World) (h1 : l1.length = n1) (h2 : l2.length = n2) (hr1 : Rd w w.heap.size A1 l1) (hr2 : Rd w w.heap.size A2 l2) (hn1 : n1 ≤ 60000) (hn2 : n2 ≤ 60000) :
    Calls Try.prog 21 #[.slice A1 n1 c1, .slice A2 n2 c2] w (RetPol w (addL l1 l2)) := by
  have H1 := Lib.hid h1
  have H2 := Lib.hid h2
  have R1 := Lib.hid hr1
  have R2 := Lib.hid hr2
  clear h1 h2 hr1 hr2
  go_enter Try.func21, Try.ntmps21
  go_wp2
  go_loopw [5, 6] (fun v j wr => ∃ (i : Nat) (A : Option Addr) (c : Nat), i ≤ max n1 n2 ∧ j = .int .i64 i ∧ v = .slice A i c ∧ Own wr w.heap.size A i c (tab i (fun j => l1.getD j 0 + l2.getD j 0)) ∧ Below w.heap.size w wr) (fun _ j _ => max n1 n2 - (intOf j).toNat)
  case atStart => exact ⟨0, none, 0, by omega, rfl, rfl, Own.nil _ _, Below.refl _ _⟩
  case round =>
    obtain ⟨i, A, c, hi, rfl, rfl, hown, hb⟩ := hrel
    have HB := Lib.hid hb
    have HO := Lib.hid hown
    clear hb hown
    have HS := Lib.hid (tab_snoc (fun j => l1.getD j 0 + l2.getD j 0) i)
    by_cases hlt : i < max n1 n2
    · by_cases i1 : i < n1
      · obtain ⟨b1, o1, rfl, hlt1, hc1⟩ := (R1.out.below HB.out) (by rw [H1.out]; omega)
        have d1 := hc1 i (by rw [H1.out]; exact i1)
        clear hc1
        by_cases i2 : i < n2
        · obtain ⟨b2, o2, rfl, hlt2, hc2⟩ := (R2.out.below HB.out) (by rw [H2.out]; omega)
          have d2 := hc2 i (by rw [H2.out]; exact i2)
          clear hc2
          generalize tab i (fun j => l1.getD j 0 + l2.getD j 0) = cur at HO HS
          generalize l1.getD i 0 = x1 at d1 HS
          generalize l2.getD i 0 = x2 at d2 HS
          have hxor := bits_xor x1 x2
          go_wp2_with (at_builtin; refine wpList_push _ rfl _ _ rfl w.heap.size _ _ _ _ rfl (HO.out.alloc _) wr.heap.size 1 (x1 + x2) _ rfl rfl (by go_cell) (by omega) (by have := HB.out.size; simp; omega) ?_; intro A' c' w1 hown1 hb1 hg1)
          go_roundw
          case rel => exact ⟨i + 1, A', c', by omega, by go_num, rfl, by rw [← HS.out]; exact hown1, (HB.out.alloc HB.out.size _).trans hb1⟩
          case measure => simp only [intOf]; omega
        · have hz : l2.getD i 0 = 0 := getD_beyond (by rw [H2.out]; omega)
          rw [hz, F.add_zero] at HS
          clear hz
          generalize tab i (fun j => l1.getD j 0 + l2.getD j 0) = cur at HO HS
          generalize l1.getD i 0 = x1 at d1 HS
          go_wp2_with (at_builtin; refine wpList_push _ rfl _ _ rfl w.heap.size _ _ _ _ rfl (HO.out.alloc _) wr.heap.size 1 x1 _ rfl rfl (by go_cell) (by omega) (by have := HB.out.size; simp; omega) ?_; intro A' c' w1 hown1 hb1 hg1)
          go_roundw
          case rel => exact ⟨i + 1, A', c', by omega, by go_num, rfl, by rw [← HS.out]; exact hown1, (HB.out.alloc HB.out.size _).trans hb1⟩
          case measure => simp only [intOf]; omega
      · have i2 : i < n2 := by omega
        obtain ⟨b2, o2, rfl, hlt2, hc2⟩ := (R2.out.below HB.out) (by rw [H2.out]; omega)
        have d2 := hc2 i (by rw [H2.out]; exact i2)
        clear hc2
        have hz : l1.getD i 0 = 0 := getD_beyond (by rw [H1.out]; omega)
        rw [hz, F.zero_add] at HS
        clear hz
        generalize tab i (fun j => l1.getD j 0 + l2.getD j 0) = cur at HO HS
        generalize l2.getD i 0 = x2 at d2 HS
        have hxor : bits .xor .u16 0 (x2.nat : Int) = (x2.nat : Int) := by
          have := bits_xor 0 x2
          rw [F.zero_add] at this
          exact this
        go_wp2_with (at_builtin; refine wpList_push _ rfl _ _ rfl w.heap.size _ _ _ _ rfl (HO.out.alloc _) wr.heap.size 1 x2 _ rfl rfl (by go_cell) (by omega) (by have := HB.out.size; simp; omega) ?_; intro A' c' w1 hown1 hb1 hg1)
        go_roundw
        case rel => exact ⟨i + 1, A', c', by omega, by go_num, rfl, by rw [← HS.out]; exact hown1, (HB.out.alloc HB.out.size _).trans hb1⟩
        case measure => simp only [intOf]; omega
    · have him : i = max n1 n2 := by omega
      have HM := Lib.hid him
      have i1 : ¬ i < n1 := by omega
      have i2 : ¬ i < n2 := by omega
      clear him
      go_wp2_with (go_at_call 19; refine (rshort_any A i c (tab i (fun j => l1.getD j 0 + l2.getD j 0)) _ (tab_length _ _) (by exact HO.out.rd) (by omega) HO.out.cap.1).mono ?_; rintro e w' ⟨A', c', rfl, hown', hb'⟩)
      go_ret
      have e : addL l1 l2 = shortL (tab i (fun j => l1.getD j 0 + l2.getD j 0)) := by
        rw [addL, addR, H1.out, H2.out, HM.out]
      rw [e]
      exact ⟨A', c', rfl, Own.less hown' HB.out.size, bstep HB.out (Nat.le_refl _) hb'⟩

set_option maxRecDepth 100000 in
set_option maxHeartbeats 4000000 in
theorem rslope_any (A : Option Addr) (n c : Nat) (l : List F) (w : World) (hl : l.length = n) (hr : Rd w w.heap.size A l) (hn : n ≤ 60000) :
    Calls Try.prog 25 #[.slice A n c] w (RetPol w (slopeL l)) := by
  have H1 := Lib.hid hl
  have R1 := Lib.hid hr
  clear hl hr
  go_enter Try.func25, Try.ntmps25
  go_wp2
  go_loopw [3, 4] (fun v j wr => ∃ (i : Nat) (A : Option Addr) (c : Nat), i ≤ n - 1 ∧ j = .int .i64 ((i : Int) + 1) ∧ v = .slice A i c ∧ Own wr w.heap.size A i c (tab i (fun i => if i % 2 = 1 then 0 else l.getD (i + 1) 0)) ∧ Below w.heap.size w wr) (fun _ j _ => n - (intOf j).toNat)
  case atStart => exact ⟨0, none, 0, by omega, rfl, rfl, Own.nil _ _, Below.refl _ _⟩
  case round =>
    obtain ⟨i, A', c', hi, rfl, rfl, hown, hb⟩ := hrel
    have HB := Lib.hid hb
    have HO := Lib.hid hown
    clear hb hown
    have HS := Lib.hid (tab_snoc (fun i => if i % 2 = 1 then 0 else l.getD (i + 1) 0) i)
    by_cases hlt : i + 1 < n
    · obtain ⟨b1, o1, rfl, hlt1, hc1⟩ := (R1.out.below HB.out) (by rw [H1.out]; omega)
      have d1 := hc1 (i + 1) (by rw [H1.out]; exact hlt)
      clear hc1
      generalize l.getD (i + 1) 0 = x1 at d1 HS
      have q1 : (0 : Int) ≤ (i : Int) + 1 := by omega
      have q2 : (i : Int) + 1 < (n : Int) := by omega
      have q3 : ((i : Int) + 1).toNat = i + 1 := by omega
      by_cases hodd : i % 2 = 1
      · have ht : ((i : Int) + 1).tmod 2 = 0 := by rw [Int.tmod_eq_emod_of_nonneg (by omega)]; omega
        rw [if_pos hodd] at HS
        clear hodd
        generalize tab i (fun i => if i % 2 = 1 then 0 else l.getD (i + 1) 0) = cur at HO HS
        go_wp2_with (at_builtin; refine wpList_push _ rfl _ _ rfl w.heap.size _ _ _ _ rfl (HO.out.alloc _) wr.heap.size 1 (0 : F) 0 rfl rfl (by go_cell) (by omega) (by have := HB.out.size; simp; omega) ?_; intro A' c' w1 hown1 hb1 hg1)
        go_roundw
        case rel => exact ⟨i + 1, A', c', by omega, by go_num, rfl, by rw [← HS.out]; exact hown1, (HB.out.alloc HB.out.size _).trans hb1⟩
        case measure => simp only [intOf]; omega
      · have ht : ((i : Int) + 1).tmod 2 = 1 := by rw [Int.tmod_eq_emod_of_nonneg (by omega)]; omega
        rw [if_neg hodd] at HS
        clear hodd
        generalize tab i (fun i => if i % 2 = 1 then 0 else l.getD (i + 1) 0) = cur at HO HS
        go_wp2_with (at_builtin; refine wpList_push _ rfl _ _ rfl w.heap.size _ _ _ _ rfl (HO.out.alloc _) wr.heap.size 1 x1 _ rfl rfl (by go_cell) (by omega) (by have := HB.out.size; simp; omega) ?_; intro A' c' w1 hown1 hb1 hg1)
        go_roundw
        case rel => exact ⟨i + 1, A', c', by omega, by go_num, rfl, by rw [← HS.out]; exact hown1, (HB.out.alloc HB.out.size _).trans hb1⟩
        case measure => simp only [intOf]; omega
    · have him : i = n - 1 := by omega
      have HM := Lib.hid him
      clear him
      have q2 : ¬ (i : Int) + 1 < (n : Int) := by omega
      go_wp2_with (go_at_call 19; refine (rshort_any A' i c' (tab i (fun i => if i % 2 = 1 then 0 else l.getD (i + 1) 0)) _ (tab_length _ _) (by exact HO.out.rd) (by omega) HO.out.cap.1).mono ?_; rintro e w' ⟨A3, c3, rfl, hown', hb'⟩)
      go_ret
      have e : slopeL l = shortL (tab i (fun i => if i % 2 = 1 then 0 else l.getD (i + 1) 0)) := by
        rw [slopeL, slopeR, H1.out, HM.out]
      rw [e]
      exact ⟨A3, c3, rfl, Own.less hown' HB.out.size, bstep HB.out (Nat.le_refl _) hb'⟩

set_option maxRecDepth 100000 in
set_option maxHeartbeats 4000000 in
theorem rof_any (A : Option Addr) (n c : Nat) (l : List F) (w : World) (hl : l.length = n) (hr : Rd w w.heap.size A l) (hn : n ≤ 50000)
    (hmul : ∀ (A1 A2 : Option Addr) (n1 n2 c1 c2 : Nat) (l1 l2 : List F) (w : World), l1.length = n1 → l2.length = n2 → Rd w w.heap.size A1 l1 → Rd w w.heap.size A2 l2 → n1 + n2 ≤ 60000 → Calls Try.prog 22 #[.slice A1 n1 c1, .slice A2 n2 c2] w (RetPol w (mulL l1 l2))) :
    Calls Try.prog 27 #[.slice A n c] w (RetPol w (ofL l)) := by
  have HMUL := Lib.hid hmul
  have HL := Lib.hid hl
  have HR := Lib.hid hr
  clear hl hr hmul
  go_enter Try.func27, Try.ntmps27
  go_wp2
  go_loopw [3, 4] (fun v j wr => ∃ (k m : Nat) (A : Option Addr) (c : Nat), k ≤ n ∧ j = .int .i64 k ∧ v = .slice A m c ∧ Own wr w.heap.size A m c (ofL (l.take k)) ∧ Below w.heap.size w wr) (fun _ j _ => n - (intOf j).toNat)
  case atStart => exact ⟨0, 1, _, _, by omega, rfl, rfl, Own.lit w w.heap.size [1] _ (Nat.le_refl _) (by decide) rfl, balloc _ _⟩
  case round =>
    obtain ⟨k, m, A1, c1, hk, rfl, rfl, hown, hbel⟩ := hrel
    have HO := Lib.hid hown
    have HB := Lib.hid hbel
    clear hown
    by_cases hkn : k < n
    · obtain ⟨b, off, rfl, hlt, hc⟩ := (HR.out.below hbel) (by rw [HL.out]; omega)
      have cc := hc k (by rw [HL.out]; exact hkn)
      have HX := Lib.hid (ofL_take (l := l) (i := k) (by rw [HL.out]; exact hkn))
      clear hc hbel
      have hlen := ofL_length (l.take k)
      rw [List.length_take] at hlen
      generalize ofL (l.take k) = o at HO HX hlen
      generalize l.getD k 0 = x at cc HX
      have hom := HO.out.len
      go_wp2_with (go_at_call 22; refine (HMUL.out A1 _ m 2 c1 _ o [x, 1] _ HO.out.len rfl (by exact (HO.out.below (balloc _ _)).rd) (by exact (Own.lit wr wr.heap.size [x, 1] _ (Nat.le_refl _) (by simp) rfl).rd) (by omega)).mono ?_; rintro e w' ⟨A', c', rfl, hown', hb'⟩)
      have hb2 := bstep (balloc wr _) (Nat.le_refl _) hb'
      go_roundw
      case rel => exact ⟨k + 1, _, A', c', by omega, by go_num, rfl, by rw [HX.out]; exact Own.less hown' (by simp; have := HB.out.size; omega), bstep HB.out (Nat.le_refl _) hb2⟩
      case measure => simp only [intOf]; omega
    · obtain rfl : k = n := by omega
      have e : l.take k = l := List.take_of_length_le (by rw [HL.out]; omega)
      go_wp2
      go_ret
      rw [e] at HO
      have hlen := HO.out.len
      subst hlen
      exact ⟨A1, c1, rfl, HO.out, HB.out⟩

theorem pv_drop {l : List F} {i : Nat} (hi : i < l.length) (x : F) : pv (l.drop i) x = pv (l.drop (i + 1)) x * x + l.getD i 0 := by
  rw [List.drop_eq_getElem_cons hi, List.getD, List.getElem?_eq_getElem hi]
  rfl
set_option maxRecDepth 100000 in
set_option maxHeartbeats 4000000 in
theorem rat_any (A : Option Addr) (n c : Nat) (l : List F) (x : F) (w : World) (hl : l.length = n) (hr : Rd w w.heap.size A l) (hn : n ≤ 50000) :
    Calls Try.prog 23 #[.slice A n c, .int .u16 x.nat] w fun e w' => e = .returned (.int .u16 (pv l x).nat) ∧ Below w.heap.size w w' := by
  have HL := Lib.hid hl
  have HR := Lib.hid hr
  have q0 : IntKind.i64.wrap ((n : Int) - 1) = (n : Int) - 1 := IntWalk.i64_in _ ⟨by omega, by omega⟩
  clear hl hr
  go_enter Try.func23, Try.ntmps23
  go_wp2
  go_loopw [5, 6] (fun v j wr => ∃ (k : Nat), k ≤ n ∧ j = .int .i64 ((k : Int) - 1) ∧ v = .int .u16 (pv (l.drop k) x).nat ∧ Below w.heap.size w wr) (fun _ j _ => (intOf j + 1).toNat)
  case atStart => exact ⟨n, Nat.le_refl _, rfl, by rw [List.drop_of_length_le (by rw [HL.out]; omega)]; rfl, Below.refl _ _⟩
  case round =>
    obtain ⟨k, hk, rfl, rfl, hb⟩ := hrel
    by_cases hk0 : k = 0
    · subst hk0
      rw [List.drop_zero]
      go_wp2
      go_ret
      exact ⟨rfl, hb⟩
    · obtain ⟨i, rfl⟩ : ∃ i, k = i + 1 := ⟨k - 1, by omega⟩
      obtain ⟨b, off, rfl, hlt, hc⟩ := (HR.out.below hb) (by rw [HL.out]; omega)
      have cc := hc i (by rw [HL.out]; omega)
      have HX := Lib.hid (pv_drop (l := l) (i := i) (by rw [HL.out]; omega) x)
      clear hc
      generalize pv (l.drop (i + 1)) x = v at HX
      generalize l.getD i 0 = y at cc HX
      have hxor := bits_xor (v * x) y
      have z1 : (((i + 1 : Nat) : Int) - 1) = (i : Int) := by omega
      rw [z1]
      have q1 : (0 : Int) ≤ (i : Int) := by omega
      have q2 : (i : Int) < (n : Int) := by omega
      have q3 : IntKind.i64.wrap ((i : Int) - 1) = (i : Int) - 1 := IntWalk.i64_in _ ⟨by omega, by omega⟩
      clear z1
      go_wp2
      go_quiet ((go_at_call 14; exact qs (rmul_any _ _ v x _ rfl rfl)))
      go_wp2
      go_roundw
      case rel => exact ⟨i, by omega, rfl, by rw [HX.out], below_drewN hb _⟩
      case measure => simp only [intOf]; omega

set_option maxRecDepth 100000 in
set_option maxHeartbeats 4000000 in
theorem spoil_any (A1 A2 : Option Addr) (n1 n2 c1 c2 B : Nat) (l1 l2 : List F) (w : World) (h1 : Own w B A1 n1 c1 l1) (h2 : l2.length = n2) (hr2 : Rd w w.heap.size A2 l2) (hB : B ≤ w.heap.size) (hn1 : n1 ≤ 60000) :
    Calls Try.prog 18 #[.slice A1 n1 c1, .slice A2 n2 c2] w fun e w' => e = .returned (.bool (decide (l1 = l2))) ∧ Below B w w' := by
  have H1 := Lib.hid h1
  have H2 := Lib.hid h2
  have R2 := Lib.hid hr2
  clear h1 h2 hr2
  go_enter Try.func18, Try.ntmps18
  go_wp2_with (go_at_call 15; refine (same_any A1 A2 n1 c1 n2 c2 _ _ l1 l2 _ H1.out.len H2.out (by exact H1.out.rd) (by exact R2.out) (Nat.le_refl _) (Nat.le_refl _) (by unfold maxLen; omega)).mono ?_; rintro e w1 ⟨rfl, hb⟩)
  have O1 := Lib.hid (H1.out.below hb)
  have hbB := hb.mono hB
  clear hb
  go_loopw [6] (fun j wr => ∃ (k : Nat) (l : List F), k ≤ n1 ∧ j = .int .i64 k ∧ Own wr B A1 n1 c1 l ∧ Below B w wr) (fun j _ => n1 - (intOf j).toNat)
  case atStart => exact ⟨0, l1, by omega, rfl, O1.out, hbB⟩
  case round =>
    obtain ⟨k, l, hk, rfl, ho, hb⟩ := hrel
    by_cases hkn : k < n1
    · obtain ⟨g, rfl, hg, _⟩ := ho.form (by omega)
      have cc := ho.cell hkn
      have hf := ho.frozen k
      have q2 : (k : Int) < (n1 : Int) := by omega
      have HO := Lib.hid ho
      clear ho
      generalize l.getD k 0 = y at cc
      go_wp2
      go_roundw
      case rel => exact ⟨k + 1, _, by omega, by go_num, HO.out.store k (F.ofNat 777) (by rfl), hb.setCell (p := ⟨g, k, none⟩) hg _⟩
      case measure => simp only [intOf]; omega
    · obtain rfl : k = n1 := by omega
      go_wp2
      go_ret
      exact ⟨rfl, hb⟩
set_option maxRecDepth 100000 in
set_option maxHeartbeats 4000000 in
theorem rpmul_any (A1 A2 : Option Addr) (n1 n2 c1 c2 : Nat) (l1 l2 : List F) (w : World) (h1 : l1.length = n1) (h2 : l2.length = n2) (hr1 : Rd w w.heap.size A1 l1) (hr2 : Rd w w.heap.size A2 l2) (hn : n1 + n2 ≤ 60000) :
    Calls Try.prog 22 #[.slice A1 n1 c1, .slice A2 n2 c2] w (RetPol w (mulL l1 l2)) := by
  by_cases h0 : n1 = 0
  · obtain rfl : l1 = [] := List.eq_nil_of_length_eq_zero (by omega)
    subst h0
    clear hr1 hr2
    go_enter Try.func22, Try.ntmps22
    go_wp2
    go_ret
    exact RetPol.none w
  by_cases h0' : n2 = 0
  · obtain rfl : l2 = [] := List.eq_nil_of_length_eq_zero (by omega)
    subst h0'
    clear hr1 hr2
    go_enter Try.func22, Try.ntmps22
    go_wp2
    go_ret
    rw [mulL_nil]
    exact RetPol.none w
  have H1 := Lib.hid h1
  have H2 := Lib.hid h2
  have R1 := Lib.hid hr1
  have R2 := Lib.hid hr2
  have t1 : ((n1 : Int) == 0) = false := by rw [beq_eq_false_iff_ne]; omega
  have t2 : ((n2 : Int) == 0) = false := by rw [beq_eq_false_iff_ne]; omega
  clear h1 h2 hr1 hr2
  obtain ⟨N, hN⟩ : ∃ N, N = n1 + n2 - 1 := ⟨_, rfl⟩
  have q1 : (n1 : Int) + (n2 : Int) - 1 = (N : Int) := by omega
  have q2 : IntKind.i64.wrap ((n1 : Int) + (n2 : Int)) = (n1 : Int) + (n2 : Int) := IntWalk.i64_in _ ⟨by omega, by omega⟩
  have q3 : IntKind.i64.wrap ((n1 : Int) + (n2 : Int) - 1) = (N : Int) := by rw [q1]; exact IntWalk.i64_in _ ⟨by omega, by omega⟩
  have hN1 : N + 1 = n1 + n2 := by omega
  clear hN
  go_enter Try.func22, Try.ntmps22
  go_wp2_with (at_make; refine wpList_mk _ rfl _ _ rfl w.heap.size _ _ N rfl rfl (by omega) (by omega) (by omega) (Nat.le_refl _) ?_; intro w1 hown hg)
  have hbel : Below w.heap.size w w1 := (Below.refl _ _).grown hg (Nat.le_refl _) (by simp)
  clear hg
  have HZ := Lib.hid (show ∀ x, pv (List.replicate N 0) x = pv (l1.take 0) x * pv l2 x from fun x => by rw [pv_zeros]; exact (F.zero_mul _).symm)
  generalize List.replicate N (0 : F) = cur0 at hown HZ
  go_loopw [6] (fun v wr => ∃ (i : Nat) (cur : List F), i ≤ n1 ∧ v = .int .i64 i ∧ Own wr w.heap.size (some ⟨w.heap.size, 0, none⟩) N N cur ∧ (∀ x, pv cur x = pv (l1.take i) x * pv l2 x) ∧ Below w.heap.size w wr) (fun v _ => n1 - (intOf v).toNat)
  case atStart => exact ⟨0, cur0, by omega, rfl, hown, HZ.out, hbel⟩
  case round =>
    obtain ⟨i, cur, hi, rfl, ho, hv, hb⟩ := hrel
    have HV := Lib.hid hv
    have HO := Lib.hid ho
    have HB := Lib.hid hb
    clear hv ho hown hbel HZ
    by_cases hin : i < n1
    · obtain ⟨b, off, rfl, hlt, hc⟩ := (R1.out.below hb) (by rw [H1.out]; omega)
      have hc' := (R1.out (by rw [H1.out]; omega))
      obtain ⟨b', off', e', _, hc1⟩ := hc'
      injection e' with e'; injection e' with e1 e2; subst e1 e2
      have HC := Lib.hid (hc1 i (by rw [H1.out]; exact hin))
      have HT := Lib.hid (fun x => pv_take (l := l1) (i := i) (by rw [H1.out]; exact hin) x)
      clear hc hb hc1
      generalize l1.getD i 0 = y at HC HT
      have q1' : (0 : Int) ≤ (i : Int) := by omega
      have q2' : (i : Int) < (n1 : Int) := by omega
      go_wp2_with fail
      go_loopw [7] (fun v wr2 => ∃ k : Nat, k ≤ n2 ∧ v = .int .i64 k ∧ Own wr2 w.heap.size (some ⟨w.heap.size, 0, none⟩) N N (addAt cur (l2.take k) i y) ∧ Below w.heap.size w wr2) (fun v _ => n2 - (intOf v).toNat)
      case atStart => exact ⟨0, by omega, rfl, by rw [addAt_start]; exact HO.out, HB.out⟩
      case round =>
        obtain ⟨k, hk, rfl, ho2, hb2⟩ := hrel
        have HB2 := Lib.hid hb2
        by_cases hkn : k < n2
        · obtain ⟨bb, ob, rfl, hltb, hcb⟩ := (R2.out.below hb2) (by rw [H2.out]; omega)
          have cb := hcb k (by rw [H2.out]; exact hkn)
          have ca := (hb2.cell (p := ⟨b, off + i, none⟩) hlt).trans HC.out
          have co := ho2.cell (j := i + k) (by omega)
          have hfz := ho2.frozen (i + k)
          have HX := Lib.hid (addAt_next (to := cur) (p := l2) (k := i) (i := k) (y := y) (by rw [H2.out]; exact hkn) (by rw [HO.out.len]; omega) rfl)
          have HO2 := Lib.hid ho2
          clear hcb hb2 ho2
          generalize addAt cur (l2.take k) i y = cur2 at co HX HO2
          generalize cur2.getD (i + k) 0 = x2 at co HX
          generalize l2.getD k 0 = x1 at cb HX
          rw [F.mul_comm x1 y] at HX
          have z1 : (0 : Int) ≤ (k : Int) := by omega
          have z2 : (k : Int) < (n2 : Int) := by omega
          have z3 : (0 : Int) ≤ (i : Int) + (k : Int) := by omega
          have z4 : (i : Int) + (k : Int) < (N : Int) := by omega
          have z5 : ((i : Int) + (k : Int)).toNat = i + k := by omega
          have z6 : IntKind.i64.wrap ((i : Int) + (k : Int)) = (i : Int) + (k : Int) := IntWalk.i64_in _ ⟨by omega, by omega⟩
          go_wp2
          refine region_tail 21 (by kernel_rfl) (by kernel_rfl) ?_
          simp only [List.take_succ_cons, List.take_zero, List.drop_succ_cons, List.drop_zero]
          repeat (first
            | still_step
            | still_call (stillOf (rmul_any _ _ y x1 _ rfl rfl)))
          refine wpStill_nil ?_
          go_wp2
          go_roundw
          case rel => exact ⟨k + 1, by omega, by go_num, by rw [← HX.out]; exact (HO2.out.store (i + k) _ (bits_xor _ _)).drew, (HB2.out.setCell (p := ⟨w.heap.size, i + k, none⟩) (Nat.le_refl _) _).drew⟩
          case measure => simp only [intOf]; omega
        · obtain rfl : k = n2 := by omega
          have e : l2.take k = l2 := List.take_of_length_le (by rw [H2.out]; omega)
          rw [e] at ho2
          have HO2 := Lib.hid ho2
          clear ho2 hb2
          go_wp2
          go_roundw
          case rel => exact ⟨i + 1, _, by omega, by go_num, HO2.out, fun x => by rw [pv_addAt _ _ _ _ _ (by rw [HO.out.len, H2.out]; omega), HV.out, HT.out, F.add_mul, F.mul_assoc (F.pow x i), F.mul_comm y], HB2.out⟩
          case measure => simp only [intOf]; omega
    · obtain rfl : i = n1 := by omega
      have e : l1.take i = l1 := List.take_of_length_le (by rw [H1.out]; omega)
      clear hb
      go_wp2_with (go_at_call 19; refine (rshort_any _ N N cur _ HO.out.len (by exact HO.out.rd) (by omega) (Nat.le_refl _)).mono ?_; rintro e w' ⟨A', c', rfl, hown', hb'⟩)
      go_ret
      have hv := HV.out
      rw [e] at hv
      rw [← mulL_eq (by rw [H1.out, H2.out]; omega) (by rw [HO.out.len]; omega) hv]
      exact ⟨A', c', rfl, Own.less hown' HB.out.size, bstep HB.out (Nat.le_refl _) hb'⟩
end Go.Proofs.Ytneciddigglnmaa
