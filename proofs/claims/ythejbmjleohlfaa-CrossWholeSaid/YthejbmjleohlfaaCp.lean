/- The walk of large. -/
import Derived.Test.YthejbmjleohlfaaCf
namespace Go.Proofs.Ythejbmjleohlfaa
set_option linter.unusedVariables false
open Go.RowKit

/-- What large hands back (what it counts may be more than a number holds: only the number of the volumes is told). -/
def RetLarge (w : World) (n : Nat) (e : Ending) (w' : World) : Prop := ∃ q : Bool, e = .returned (.bool q) ∧ Below w.heap.size w w' ∧ (q = false → n ≤ 200)

set_option maxRecDepth 100000 in
set_option maxHeartbeats 8000000 in
theorem large_any (A : Option Addr) (n c : Nat) (D R S M : Int) (H : Nat → Option Addr × Nat) (L : List (List (List UInt8))) (w : World) (hl : L.length = n) (hrd : RdSS w w.heap.size A H L) (hn : n ≤ 9223372036854775807) :
    Calls Try.prog 14 #[shV D R S M, .slice A n c] w (RetLarge w n) := by
  have HL := Lib.hid hl
  have HRD := Lib.hid hrd
  have HN := Lib.hid hn
  have SH := Lib.hid (ShapeAt.new w D R S M)
  have BW := Lib.hid (balloc w (shO D R S M))
  clear hl hrd hn
  unfold shO at SH BW
  unfold shV
  go_enter Try.func14, Try.ntmps14
  go_wp2_with fail
  obtain ⟨w1, hw1⟩ : ∃ w1, w1 = w.alloc (.cells #[.int .i64 D, .int .i64 R, .int .i64 S, .int .i64 M] 31) := ⟨_, rfl⟩
  rw [← hw1] at SH BW
  rw [← hw1]
  clear hw1
  go_loop [5, 6] (fun v i => ∃ (j : Nat) (x : Int), j ≤ n ∧ i = .int .i64 j ∧ v = .int .i64 x) (fun _ i => n - (intOf i).toNat)
  case atStart => exact ⟨0, 0, Nat.zero_le _, rfl, rfl⟩
  case round =>
    obtain ⟨j, x, hj, rfl, rfl⟩ := hrel
    cases hx : decide (x < (4000 : Int)) with
    | true =>
      by_cases hjn : j < n
      · have HX := Lib.hid hx
        have HR := Lib.hid (HRD.out.below BW.out)
        obtain ⟨b, off, rfl, hbb, e1⟩ := HR.out.cell (i := j) (by rw [HL.out]; exact hjn)
        have q1 : (0 : Int) ≤ (j : Int) := by omega
        have q2 : (j : Int) < (n : Int) := by omega
        have HRW := Lib.hid (fun r (hr : r < (L.getD j []).length) => HR.out.rowCell (i := j) (r := r) (by rw [HL.out]; exact hjn) hr)
        have HML := Lib.hid (HR.out.lens j (by rw [HL.out]; exact hjn))
        obtain ⟨m, hm⟩ : ∃ m, m = (L.getD j []).length := ⟨_, rfl⟩
        rw [← hm] at e1 HRW HML
        generalize (H j).1 = Aj at e1 HRW
        generalize (H j).2 = cj at e1
        clear hm
        have HVJ := Lib.hid (show wrap64 ((j : Int) + 1) = (j : Int) + 1 from IntWalk.wrap64_in _ ⟨by omega, by have := HN.out; omega⟩)
        go_wp2_with fail
        clear hx
        go_loop [5, 7] (fun v i => ∃ (k : Nat) (y : Int), k ≤ m ∧ i = .int .i64 k ∧ v = .int .i64 y) (fun _ i => m - (intOf i).toNat)
        case atStart => exact ⟨0, _, Nat.zero_le _, rfl, rfl⟩
        case round =>
          obtain ⟨k, y, hk, rfl, rfl⟩ := hrel
          cases hy : decide (y < (4000 : Int)) with
          | true =>
            by_cases hkm : k < m
            · obtain ⟨b2, off2, rfl, hb2, e2⟩ := HRW.out k hkm
              generalize (L.getD j []).getD k [] = s at e2
              have q3 : (0 : Int) ≤ (k : Int) := by omega
              have q4 : (k : Int) < (m : Int) := by omega
              have HV3 := Lib.hid (show wrap64 ((k : Int) + 1) = (k : Int) + 1 from IntWalk.wrap64_in _ ⟨by omega, by have := HML.out; unfold maxLen at this; omega⟩)
              unfold sv at e2
              go_wp2_with fail
              go_round
              case rel => exact ⟨k + 1, _, by omega, by rw [HV3.out]; rfl, rfl⟩
              case measure => rw [HV3.out]; simp only [intOf]; omega
            · obtain rfl : k = m := by omega
              go_wp2_with fail
              go_round
              case rel => exact ⟨j + 1, y, by omega, by rw [HVJ.out]; rfl, rfl⟩
              case measure => rw [HVJ.out]; simp only [intOf]; omega
          | false =>
            by_cases hkm : k < m
            · go_wp2_with fail
              go_round
              case rel => exact ⟨j + 1, y, by omega, by rw [HVJ.out]; rfl, rfl⟩
              case measure => rw [HVJ.out]; simp only [intOf]; omega
            · go_wp2_with fail
              go_round
              case rel => exact ⟨j + 1, y, by omega, by rw [HVJ.out]; rfl, rfl⟩
              case measure => rw [HVJ.out]; simp only [intOf]; omega
      · obtain rfl : n = j := by omega
        have z1 : decide ((4000 : Int) ≤ x) = false := decide_eq_false (by have := of_decide_eq_true hx; omega)
        have c0 := SH.out.d
        have c1 := SH.out.r
        have c2 := SH.out.s
        have c3 := SH.out.m
        cases z2 : decide ((200 : Int) < (n : Int)) with
        | true =>
          go_wp2_with fail
          go_ret
          exact ⟨true, rfl, BW.out, fun h => by cases h⟩
        | false =>
          have HQ2 := Lib.hid (show n ≤ 200 from by have := of_decide_eq_false z2; omega)
          cases z3 : decide ((64 : Int) < D) with
          | true =>
            by_cases z4 : 0 < n
            · go_wp2_with fail
              go_ret
              exact ⟨true, rfl, BW.out, fun h => by cases h⟩
            · go_wp2_with fail
              all_goals (
                go_ret
                exact ⟨_, rfl, BW.out, fun _ => HQ2.out⟩)
          | false =>
            go_wp2_with fail
            all_goals (
              go_ret
              exact ⟨_, rfl, BW.out, fun _ => HQ2.out⟩)
    | false =>
      have z1 : decide ((4000 : Int) ≤ x) = true := decide_eq_true (by have := of_decide_eq_false hx; omega)
      by_cases hjn : j < n
      · go_wp2_with fail
        go_ret
        exact ⟨true, rfl, BW.out, fun h => by cases h⟩
      · go_wp2_with fail
        go_ret
        exact ⟨true, rfl, BW.out, fun h => by cases h⟩
end Go.Proofs.Ythejbmjleohlfaa
