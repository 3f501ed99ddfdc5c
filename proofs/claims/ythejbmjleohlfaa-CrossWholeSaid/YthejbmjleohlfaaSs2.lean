/- slices.Sorted of slices.Values; whether places may be asked. -/
import Derived.Test.YthejbmjleohlfaaSs
import Derived.Test.YthejbmjleohlfaaSlp
import Derived.Sort.OwnSortedInts
import Derived.Lib.OwnBridge
namespace Go.Proofs.Ythejbmjleohlfaa
open Go.RowKit Go.Shelf

/-- Sorted. -/
def sortedI (zs : List Int) : List Int := zs.mergeSort fun x y => decide (x ≤ y)
theorem sortedI_length (zs : List Int) : (sortedI zs).length = zs.length := List.length_mergeSort _
/-- A slice of ints that the call made. -/
def OwnI (w : World) (B : Nat) (v : Value) (zs : List Int) : Prop := w.ownsRow B 3 1 v zs.length (zs.map (Value.int .i64))
theorem OwnI.below {w w' : World} {B : Nat} {v : Value} {zs : List Int} (h : OwnI w B v zs) (hb : Below w.heap.size w w') : OwnI w' B v zs := by
  refine ⟨h.1, ?_⟩
  rcases h.2 with h2 | ⟨g, cap, cur, hv, hbase, hg, h3⟩
  · exact .inl h2
  · refine .inr ⟨g, cap, cur, hv, hbase, ?_, h3⟩
    rw [hb.block g (Array.getElem?_eq_some_iff.1 hg).1]; exact hg
theorem OwnI.form {w : World} {B : Nat} {v : Value} {zs : List Int} (h : OwnI w B v zs) : ∃ A c, v = .slice A zs.length c ∧ zs.length ≤ c ∧ c ≤ maxLen ∧ RdI w w.heap.size A zs := by
  by_cases hv : v = .slice none 0 0
  · have h0 : zs = [] := by
      rcases h.2 with ⟨_, h0⟩ | ⟨g, cap, cur, hv2, _⟩
      · exact List.eq_nil_of_length_eq_zero h0
      · rw [hv] at hv2; cases hv2
    subst h0
    exact ⟨none, 0, hv, Nat.le_refl _, by unfold maxLen; omega, RdI.nil⟩
  · obtain ⟨g, cap, hv2, hB, hlt, hn, hm, _, hH⟩ := Lib.holds_of_ownsRow h hv
    refine ⟨_, cap, hv2, hn, hm, fun _ => ⟨g, 0, rfl, hlt, fun j hj => ?_⟩⟩
    have := (hH j (by simpa using hj)).1
    rw [this]
    simp [hj]

theorem values_any (A : Option Addr) (n c : Nat) (w : World) :
    Calls Try.prog 51 #[.slice A n c] w fun e w' => e = .returned (.func (.func 62) #[] #[.pointer (some ⟨w.heap.size, 0, none⟩)]) ∧ w' = w.alloc (.cells #[.slice A n c] 42) := by
  go_enter Try.func51, Try.ntmps51
  go_wp2
  go_ret
  exact ⟨rfl, rfl⟩

set_option maxRecDepth 100000 in
theorem collect_any (Bs n₀ len cap : Nat) (A : Option Addr) (zs : List Int) (hlen : zs.length = len) (hm : len ≤ 1000000) (w : World) (hBs : Bs < w.heap.size) (hn₀ : n₀ ≤ w.heap.size) (hc : w.cell? ⟨Bs, 0, none⟩ = some (.slice A len cap)) (hI : RdI w n₀ A zs) :
    Calls Try.prog 60 #[.func (.func 62) #[] #[.pointer (some ⟨Bs, 0, none⟩)]] w fun e w' => ∃ v, e = .returned v ∧ OwnI w' w.heap.size v zs ∧ Below w.heap.size w w' := by
  go_enter Try.func60, Try.ntmps60
  go_wp2_with (go_at_call 70; refine (callsIn_wide.1 (appendSeq_in Fence.wide 5 trivial trivial rfl (by omega) Bs n₀ len cap A zs hlen hm _ hBs hn₀ hc hI)).mono ?_; rintro e w' ⟨v, rfl, hrow, _, hb⟩)
  go_ret
  exact ⟨v, rfl, hrow, hb⟩

theorem sort_any (v : Value) (B : Nat) (zs : List Int) (w : World) (h : OwnI w B v zs) (hlen : zs.length ≤ 1000000) :
    Calls Try.prog 61 #[v] w fun e w' => e = .returned (.tuple #[]) ∧ OwnI w' B v (sortedI zs) ∧ Below B w w' := by
  by_cases hv : v = .slice none 0 0
  · have h0 : zs = [] := by
      rcases h.2 with ⟨_, h0⟩ | ⟨g, cap, cur, hv2, _⟩
      · exact List.eq_nil_of_length_eq_zero h0
      · rw [hv] at hv2; cases hv2
    subst h0; subst hv
    refine (AnyM.slices_Sort_int_none Try.lSort none 0 w).mono ?_
    rintro e w' ⟨rfl, rfl⟩
    exact ⟨rfl, by rw [show sortedI [] = [] from List.mergeSort_nil]; exact h, Below.refl _ _⟩
  · obtain ⟨g, cap, hv2, hB, hlt, hn, hm, _, hH⟩ := Lib.holds_of_ownsRow h hv
    subst hv2
    refine (AnyM.slices_Sort_int Try.lSort g 0 cap zs w hH hlt (by omega)).mono ?_
    rintro e w' ⟨rfl, q, os, rfl⟩
    refine ⟨rfl, ?_, (Below.refl B w).grown (grownBy_sortedI _) (by omega) (fun k e => by cases e; exact hB)⟩
    rcases h.2 with ⟨h0, _⟩ | ⟨g', cap', cur, hv3, hb, hg, h1, h2, h3, h4⟩
    · cases h0
    · injection hv3 with e1 _ e3
      injection e1 with e1; injection e1 with e1
      subst e1; subst e3
      have := ownsRow_sortedI (n := q) (os := os) (ss := zs) (ts := sortedI zs) (sortedI_length zs) hb hg h1 h2 h3
      unfold OwnI
      rw [sortedI_length]
      exact this

set_option maxRecDepth 100000 in
theorem sorted_any (Bs n₀ len cap : Nat) (A : Option Addr) (zs : List Int) (hlen : zs.length = len) (hm : len ≤ 1000000) (w : World) (hBs : Bs < w.heap.size) (hn₀ : n₀ ≤ w.heap.size) (hc : w.cell? ⟨Bs, 0, none⟩ = some (.slice A len cap)) (hI : RdI w n₀ A zs) :
    Calls Try.prog 50 #[.func (.func 62) #[] #[.pointer (some ⟨Bs, 0, none⟩)]] w fun e w' => ∃ v, e = .returned v ∧ OwnI w' w.heap.size v (sortedI zs) ∧ Below w.heap.size w w' := by
  go_enter Try.func50, Try.ntmps50
  go_wp2_with fail
  refine (collect_any Bs n₀ len cap A zs hlen hm _ hBs hn₀ hc hI).mono ?_
  rintro e w1 ⟨v, rfl, hown, hb⟩
  go_wp2_with fail
  refine (sort_any v w.heap.size zs _ hown (by omega)).mono ?_
  rintro e w2 ⟨rfl, hown2, hb2⟩
  go_wp2_with fail
  go_ret
  exact ⟨v, rfl, hown2, hb.trans hb2⟩

/-- Without what is there again just behind. -/
def compactI (zs : List Int) : List Int := Lib.compactUpTo zs.toArray zs.toArray.size
set_option maxRecDepth 100000 in
theorem compact_any (A : Option Addr) (c : Nat) (B : Nat) (zs : List Int) (w : World) (h : OwnI w B (.slice A zs.length c) zs) (hpos : 0 < zs.length) (hlen : zs.length ≤ 1000000) :
    Calls Try.prog 52 #[.slice A zs.length c] w fun e w' => (∃ A', e = .returned (.slice A' (compactI zs).length c)) ∧ Below B w w' := by
  obtain ⟨g, cap, hv2, hB, hlt, hn, hm, _, hH⟩ := Lib.holds_of_ownsRow h (fun e => by injection e with _ e2; omega)
  injection hv2 with e1 _ e3
  subst e1; subst e3
  refine (AnyE.slices_Compact Try.lCompact (Value.int .i64) (fun _ => rfl) (EqlAt.intD _ _ _) (NeqAt.intD _ _ _) 0 (fun _ => rfl) g 0 c zs.toArray w hH (by simp; omega) (by simpa using hn)).mono ?_
  rintro e w' ⟨rfl, q, rfl⟩
  exact ⟨⟨_, rfl⟩, Lib.below_putRow (Below.refl B w) hB⟩

theorem compact_len (A : Option Addr) (n c : Nat) (B : Nat) (zs : List Int) (w : World) (h : OwnI w B (.slice A n c) zs) (hn : zs.length = n) (hpos : 0 < n) (hlen : n ≤ 1000000) :
    Calls Try.prog 52 #[.slice A n c] w fun e w' => (∃ A', e = .returned (.slice A' (compactI zs).length c)) ∧ Below B w w' := by
  subst hn
  exact compact_any A c B zs w h hpos hlen
/-- May these places be asked? -/
def mayB (n : Nat) (r : Int) (zs : List Int) : Bool := decide (1 ≤ n ∧ n ≤ 255 ∧ 0 ≤ r ∧ r ≤ (n : Int) ∧ (zs = [] ∨ ((0 : Int) ≤ ((sortedI zs)[0]?).getD (0 : Int) ∧ ((sortedI zs)[zs.length - 1]?).getD (0 : Int) < (n : Int) ∧ (compactI (sortedI zs)).length = zs.length)))

set_option maxRecDepth 100000 in
set_option maxHeartbeats 4000000 in
theorem may_any (A : Option Addr) (len cap : Nat) (zs : List Int) (n : Nat) (r : Int) (w : World) (hlen : zs.length = len) (hm : len ≤ 1000000) (hI : RdI w w.heap.size A zs) (hn63 : n ≤ 9223372036854775807) :
    Calls Try.prog 40 #[.int .i64 n, .int .i64 r, .slice A len cap] w fun e w' => e = .returned (.bool (mayB n r zs)) ∧ Below w.heap.size w w' := by
  by_cases hg : 1 ≤ n ∧ n ≤ 255 ∧ 0 ≤ r ∧ r ≤ (n : Int)
  case neg =>
    have hb : mayB n r zs = false := decide_eq_false fun h => hg ⟨h.1, h.2.1, h.2.2.1, h.2.2.2.1⟩
    rw [hb]
    have t1 : (decide ((n : Int) < 1) || decide ((255 : Int) < (n : Int)) || decide (r < 0) || decide ((n : Int) < r)) = true := by
      simp only [Bool.or_eq_true, decide_eq_true_iff]
      omega
    clear hg hb
    go_enter Try.func40, Try.ntmps40
    go_wp2
    all_goals (go_ret; exact ⟨rfl, Below.refl _ _⟩)
  case pos =>
    obtain ⟨g1, g2, g3, g4⟩ := hg
    have HL := Lib.hid hlen
    have HI := Lib.hid hI
    have HM := Lib.hid (show mayB n r zs = decide (zs = [] ∨ ((0 : Int) ≤ ((sortedI zs)[0]?).getD (0 : Int) ∧ ((sortedI zs)[zs.length - 1]?).getD (0 : Int) < (n : Int) ∧ (compactI (sortedI zs)).length = zs.length)) by
      unfold mayB; simp [g1, g2, g3, g4])
    clear hlen hI
    go_enter Try.func40, Try.ntmps40
    go_wp2_with fail
    refine (values_any A len cap _).mono ?_
    rintro e w1 ⟨rfl, rfl⟩
    go_wp2_with fail
    refine (sorted_any w.heap.size w.heap.size len cap A zs HL.out hm _ (by simp) (by simp) ((Boxed.new w 42 (.slice A len cap)).cell) (HI.out.below (balloc _ _))).mono ?_
    rintro e w2 ⟨v, rfl, hown, hb⟩
    have hsl : (sortedI zs).length = len := by rw [sortedI_length, HL.out]
    have HSL := Lib.hid hsl
    have HB := Lib.hid ((balloc w (.cells #[.slice A len cap] 42)).trans (hb.mono (by simp)))
    have HZ := Lib.hid (show zs = [] ↔ len = 0 by rw [← HL.out]; exact List.length_eq_zero_iff.symm)
    obtain ⟨Al, cl, rfl, k1, k2, hrd⟩ := hown.form
    have HOWN := Lib.hid hown
    rw [hsl] at k1 HOWN ⊢
    rw [HL.out] at HM
    clear hown hb hsl
    by_cases hl0 : len = 0
    · subst hl0
      have hbt : mayB n r zs = true := by rw [HM.out]; exact decide_eq_true (.inl (HZ.out.2 rfl))
      have HBT := Lib.hid hbt.symm
      clear hbt
      go_wp2
      go_ret
      exact ⟨ebool HBT.out, HB.out⟩
    · have HM2 := Lib.hid (show mayB n r zs = decide ((0 : Int) ≤ ((sortedI zs)[0]?).getD (0 : Int) ∧ ((sortedI zs)[len - 1]?).getD (0 : Int) < (n : Int) ∧ (compactI (sortedI zs)).length = len) by
        rw [HM.out]
        congr 1
        apply propext
        exact ⟨fun h => h.elim (fun h => absurd (HZ.out.1 h) hl0) id, .inr⟩)
      have t0 : ((len : Int) == 0) = false := by rw [beq_eq_false_iff_ne]; omega
      obtain ⟨b, off, rfl, hb2, hcl⟩ := hrd (by rw [HSL.out]; omega)
      have c0 := hcl 0 (by rw [HSL.out]; omega)
      rw [Nat.add_zero] at c0
      have c1 := hcl (len - 1) (by rw [HSL.out]; omega)
      clear hcl HM
      obtain ⟨x0, hx0⟩ : ∃ x, ((sortedI zs)[0]?).getD (0 : Int) = x := ⟨_, rfl⟩
      obtain ⟨x1, hx1⟩ : ∃ x, ((sortedI zs)[len - 1]?).getD (0 : Int) = x := ⟨_, rfl⟩
      rw [hx0] at c0 HM2
      rw [hx1] at c1 HM2
      clear hx0 hx1
      have q0 : (0 : Int) < (len : Int) := by omega
      have q1 : (0 : Int) ≤ (len : Int) - 1 := by omega
      have q2 : (len : Int) - 1 < (len : Int) := by omega
      have q3 : ((len : Int) - 1).toNat = len - 1 := by omega
      have q4 : IntKind.i64.wrap ((len : Int) - 1) = (len : Int) - 1 := IntWalk.i64_in _ ⟨by omega, by omega⟩
      by_cases h0 : 0 ≤ x0
      · by_cases h1 : x1 < (n : Int)
        · have HM3 := Lib.hid (show mayB n r zs = decide ((compactI (sortedI zs)).length = len) by rw [HM2.out]; simp [h0, h1])
          go_wp2_with fail
          refine (compact_len _ len cl _ (sortedI zs) _ HOWN.out HSL.out (by omega) hm).mono ?_
          rintro e w3 ⟨⟨A3, rfl⟩, hb3⟩
          replace HB := Lib.hid (HB.out.trans (hb3.mono (by simp)))
          clear hb3
          generalize (compactI (sortedI zs)).length = m at HM3 ⊢
          by_cases hml : m = len
          · have HM4 := Lib.hid (show true = mayB n r zs by rw [HM3.out]; exact (decide_eq_true hml).symm)
            have t5 : ((m : Int) == (len : Int)) = true := by rw [beq_iff_eq]; omega
            clear hml
            go_wp2
            go_ret
            exact ⟨ebool HM4.out, HB.out⟩
          · have HM4 := Lib.hid (show false = mayB n r zs by rw [HM3.out]; exact (decide_eq_false hml).symm)
            have t5 : ((m : Int) == (len : Int)) = false := by rw [beq_eq_false_iff_ne]; omega
            clear hml
            go_wp2
            go_ret
            exact ⟨ebool HM4.out, HB.out⟩
        · have HM3 := Lib.hid (show false = mayB n r zs by rw [HM2.out]; exact (decide_eq_false fun h => h1 h.2.1).symm)
          go_wp2
          go_ret
          exact ⟨ebool HM3.out, HB.out⟩
      · have HM3 := Lib.hid (show false = mayB n r zs by rw [HM2.out]; exact (decide_eq_false fun h => h0 h.1).symm)
        go_wp2
        go_ret
        exact ⟨ebool HM3.out, HB.out⟩
end Go.Proofs.Ythejbmjleohlfaa
