/- The walk of Same: are two slices the same numbers? -/
import Derived.Test.YtbahelhhkmonmaaOw
namespace Go.Proofs.Ytbahelhhkmonmaa
open Go.RowKit

theorem same_step {l m : List F} (hl : l.length = m.length) {i : Nat} (h : l.take i = m.take i) (hi : i < l.length) (he : l.getD i 0 = m.getD i 0) : l.take (i + 1) = m.take (i + 1) := by
  rw [List.take_succ_eq_append_getElem hi, List.take_succ_eq_append_getElem (by omega), h]
  rw [List.getD, List.getD, List.getElem?_eq_getElem hi, List.getElem?_eq_getElem (by omega)] at he
  rw [show l[i] = m[i] from he]

set_option maxHeartbeats 1000000 in
theorem same_len (A1 A2 : Option Addr) (n1 c1 n2 c2 : Nat) (w : World) (h : n1 ≠ n2) :
    Calls Try.prog 10 #[.slice A1 n1 c1, .slice A2 n2 c2] w fun e w' => e = .returned (.bool false) ∧ w = w' := by
  have ht : ((n1 : Int) != (n2 : Int)) = true := by rw [bne_iff_ne]; omega
  clear h
  go_enter Try.func10, Try.ntmps10
  go_wp2
  go_ret
  exact ⟨rfl, rfl⟩

set_option maxHeartbeats 1000000 in
theorem same_loop (A1 A2 : Option Addr) (n c1 c2 B1 B2 : Nat) (l m : List F) (w : World) (hl : l.length = n) (hm : m.length = n) (h1 : Rd w B1 A1 l) (h2 : Rd w B2 A2 m) (hB1 : B1 ≤ w.heap.size) (hB2 : B2 ≤ w.heap.size) (hn : n ≤ maxLen) :
    Calls Try.prog 10 #[.slice A1 n c1, .slice A2 n c2] w fun e w' => e = .returned (.bool (decide (l = m))) ∧ Below w.heap.size w w' := by
  unfold maxLen at hn
  have HL := Lib.hid hl
  have HM := Lib.hid hm
  have HR1 := Lib.hid (h1.more hB1)
  have HR2 := Lib.hid (h2.more hB2)
  clear hl hm h1 h2
  go_enter Try.func10, Try.ntmps10
  go_wp2
  go_loopw [5] (fun i wr => ∃ k : Nat, k ≤ n ∧ Hid (l.take k = m.take k) ∧ i = .int .i64 k ∧ Below w.heap.size w wr) (fun i _ => n - (intOf i).toNat)
  case atStart => exact ⟨0, Nat.zero_le _, rfl, rfl, Below.refl _ _⟩
  case round =>
    obtain ⟨k, hk, HE, rfl, hbel⟩ := hrel
    by_cases hlt : k < n
    · obtain ⟨b1, o1, rfl, hb1, hc1⟩ := (HR1.out.below hbel) (by rw [HL.out]; omega)
      obtain ⟨b2, o2, rfl, hb2, hc2⟩ := (HR2.out.below hbel) (by rw [HM.out]; omega)
      have d1 := hc1 k (by rw [HL.out]; exact hlt)
      have d2 := hc2 k (by rw [HM.out]; exact hlt)
      have q1 : (0 : Int) ≤ (k : Int) := by omega
      have q2 : (k : Int) < (n : Int) := by omega
      clear hc1 hc2 HR1 HR2
      by_cases hxy : l.getD k 0 = m.getD k 0
      · have HS := Lib.hid (same_step (by rw [HL.out, HM.out]) HE.out (by rw [HL.out]; exact hlt) hxy)
        rw [hxy] at d1
        clear hxy
        generalize m.getD k 0 = y at d1 d2
        go_wp2
        go_quiet (fail)
        go_wp2
        go_roundw
        case rel => exact ⟨k + 1, by omega, HS.out, by go_num, below_drewN hbel _⟩
        case measure => simp only [intOf]; omega
      · have hx := fne' hxy
        have HNE := Lib.hid (show l ≠ m from fun e => hxy (by rw [e]))
        clear hxy
        generalize l.getD k 0 = x at d1 hx
        generalize m.getD k 0 = y at d2 hx
        go_wp2
        go_quiet (fail)
        go_wp2
        go_ret
        exact ⟨ebool (decide_eq_false HNE.out).symm, below_drewN hbel _⟩
    · obtain rfl : k = n := by omega
      go_wp2
      go_ret
      have he : l = m := by
        have := HE.out
        rwa [List.take_of_length_le (by rw [HL.out]; omega), List.take_of_length_le (by rw [HM.out]; omega)] at this
      exact ⟨ebool (decide_eq_true he).symm, hbel⟩

theorem same_any (A1 A2 : Option Addr) (n1 c1 n2 c2 B1 B2 : Nat) (l m : List F) (w : World) (hl : l.length = n1) (hm : m.length = n2) (h1 : Rd w B1 A1 l) (h2 : Rd w B2 A2 m) (hB1 : B1 ≤ w.heap.size) (hB2 : B2 ≤ w.heap.size) (hn : n1 ≤ maxLen) :
    Calls Try.prog 10 #[.slice A1 n1 c1, .slice A2 n2 c2] w fun e w' => e = .returned (.bool (decide (l = m))) ∧ Below w.heap.size w w' := by
  by_cases h : n1 = n2
  · subst h
    exact same_loop A1 A2 n1 c1 c2 B1 B2 l m w hl hm h1 h2 hB1 hB2 hn
  · refine (same_len A1 A2 n1 c1 n2 c2 w h).mono fun e w' he => ?_
    obtain ⟨rfl, rfl⟩ := he
    exact ⟨by rw [decide_eq_false fun e => h (by rw [← hl, ← hm, e])], Below.refl _ _⟩
end Go.Proofs.Ytbahelhhkmonmaa
