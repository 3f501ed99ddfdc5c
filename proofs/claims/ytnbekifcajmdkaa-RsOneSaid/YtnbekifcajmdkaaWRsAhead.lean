/- The walk of the statement RsAhead: noughts ahead of data. -/
import Derived.Test.YtnbekifcajmdkaaRsu
namespace Go.Proofs.Ytnbekifcajmdkaa
open Go.RowKit

theorem check_ahead (l : List F) (k r : Nat) (h : k + l.length + r ≤ 65535) : checkL (List.replicate k 0 ++ l) r = checkL l r := by
  refine hv_unique (by rw [checkL_length, checkL_length]) (by rw [checkL_length]; omega) fun j hj => ?_
  rw [checkL_length] at hj
  rw [hv_checkL _ _ _ hj, hv_checkL _ _ _ hj, List.append_assoc, hv_zeros_append]
theorem right_ahead (l : List F) (k r : Nat) (h : k + l.length ≤ 255) (hr : r ≤ l.length) : rightB (List.replicate k 0 ++ l) (r : Int) = rightB l (r : Int) := by
  refine bool_iff ?_
  rw [rightB_iff (by rw [List.length_append, List.length_replicate]; exact h), rightB_iff (by omega), List.length_append, List.length_replicate]
  constructor
  · rintro ⟨_, h2⟩
    exact ⟨hr, fun j hj => by have := h2 j hj; rwa [hv_zeros_append] at this⟩
  · rintro ⟨_, h2⟩
    exact ⟨by omega, fun j hj => by rw [hv_zeros_append]; exact h2 j hj⟩
theorem mod100 (m : Int) (q : Int) (hq : 0 < q) (hq2 : q ≤ 1000) : ∃ k : Nat, wrap64 ((IntKind.u64.wrap m).tmod q) = (k : Int) ∧ (k : Int) < q := by
  have h0 : 0 ≤ IntKind.u64.wrap m := by rw [IntKind.wrap_u64]; omega
  have h1 : 0 ≤ (IntKind.u64.wrap m).tmod q := Int.tmod_nonneg q h0
  have h2 : (IntKind.u64.wrap m).tmod q < q := Int.tmod_lt_of_pos _ hq
  refine ⟨((IntKind.u64.wrap m).tmod q).toNat, ?_, by omega⟩
  rw [IntWalk.wrap64_in _ ⟨by omega, by omega⟩]; omega

set_option maxRecDepth 100000 in
set_option maxHeartbeats 4000000 in
theorem ahead_nat (A : Option Addr) (n c : Nat) (m : Int) (r k : Nat) (l : List F) (w : World) (hl : l.length = n) (hrd : Rd w w.heap.size A l) (hm : n ≤ 9223372036854775807)
    (hk : wrap64 ((IntKind.u64.wrap m).tmod 100) = (k : Int)) (hk2 : k ≤ 99) :
    Calls Try.prog 7 #[.slice A n c, .int .i64 m, .int .i64 r] w fun e w' => e = .returned (.bool true) ∧ Below w.heap.size w w' := by
  have HL := Lib.hid hl
  have HRD := Lib.hid hrd
  clear hl hrd
  go_enter Try.func7, Try.ntmps7
  go_wp2_with (first
    | (go_at_call 10; refine (works_any _).mono ?_; rintro e w' ⟨rfl, hbn⟩; (first | (replace hbw := bstep hbw (Nat.le_refl _) hbn; clear hbn) | (have hbw := hbn; clear hbn)))
    | (at_make; refine wpList_mk _ rfl _ _ rfl w.heap.size _ _ k rfl rfl rfl rfl (by omega) hbw.size ?_; intro w3 hown3 hg3; replace hbw := hbw.grown hg3 hbw.size (by simp); clear hg3)
    | (refine wpList_ext _ rfl (.tmp 42) (.tmp 43) rfl w.heap.size _ k _ _ rfl hown3 A n c w.heap.size l rfl HL.out (HRD.out.below hbw) (by omega) hbw.size ?_; intro A4 c4 w4 hown4 hb4 hg4; replace hbw := hbw.trans hb4; clear hown3 hb4 hg4))
  all_goals first | (go_ret; exact ⟨rfl, hbw⟩) | skip
  have hn2 : n ≤ 150 := by omega
  have hs2 : n + k + r ≤ 255 := by omega
  have HA := Lib.hid (check_ahead l k r (by rw [HL.out]; omega))
  have hlen : (List.replicate k (0 : F) ++ l).length = k + n := by rw [List.length_append, List.length_replicate, HL.out]
  have HLEN := Lib.hid hlen
  clear hlen
  have R4 := Lib.hid hown4.rd
  clear hown4
  generalize hll : List.replicate k (0 : F) ++ l = ll at HLEN R4 HA
  have HLL := Lib.hid hll
  clear hll
  refine (check_ok A n c r l _ HL.out (by exact (HRD.out.below hbw).more hbw.size) (by omega)).mono ?_
  rintro e w5 ⟨A5, c5, rfl, hm5, hb5⟩
  rw [checkL_length]
  replace hbw := bstep hbw (Nat.le_refl _) hb5
  have R45 := Lib.hid ((R4.out.below hb5).more hb5.size)
  have R5 := Lib.hid hm5.rd
  clear hm5 hb5 R4
  go_wp2_with fail
  refine (check_ok A4 (k + n) c4 r ll _ HLEN.out (by exact R45.out) (by omega)).mono ?_
  rintro e w6 ⟨A6, c6, rfl, hm6, hb6⟩
  rw [checkL_length]
  replace hbw := bstep hbw (Nat.le_refl _) hb6
  have R46 := Lib.hid ((R45.out.below hb6).more hb6.size)
  have R56 := Lib.hid ((R5.out.below hb6).more hb6.size)
  have R6 := Lib.hid hm6.rd
  clear hm6 hb6 R45 R5
  go_wp2_with fail
  refine (same_any A5 A6 r c5 r c6 _ _ (checkL l r) (checkL ll r) _ (checkL_length l r) (checkL_length ll r) R56.out R6.out (Nat.le_refl _) (Nat.le_refl _) (by unfold maxLen; omega)).mono ?_
  rintro e w7 ⟨rfl, hb7⟩
  rw [HA.out]
  have hb8 := Lib.hid (bstep hbw (Nat.le_refl _) hb7)
  have R47 := Lib.hid ((R46.out.below hb7).more hb7.size)
  clear hb7 R46 R56 R6
  by_cases hrn : n < r
  · go_wp2_with fail
    go_ret
    exact ⟨rfl, hb8.out⟩
  · go_wp2_with fail
    refine (right_any A n c r l _ HL.out (by exact (HRD.out.below hb8.out).more hb8.out.size)).mono ?_
    rintro e w8 ⟨rfl, hb9⟩
    have R48 := Lib.hid ((R47.out.below hb9).more hb9.size)
    go_wp2_with fail
    refine (right_any A4 (k + n) c4 r ll _ HLEN.out (by exact R48.out)).mono ?_
    rintro e w9 ⟨rfl, hb10⟩
    have hq := right_ahead l k r (by rw [HL.out]; omega) (by rw [HL.out]; omega)
    rw [HLL.out] at hq
    rw [hq]
    clear hq
    go_wp2_with fail
    go_ret
    exact ⟨rfl, bstep (bstep hb8.out (Nat.le_refl _) hb9) (Nat.le_refl _) hb10⟩

set_option maxHeartbeats 1000000 in
theorem ahead_neg (A : Option Addr) (n c : Nat) (m r : Int) (w : World) (hm : n ≤ 9223372036854775807) (hr : r < 0) :
    Calls Try.prog 7 #[.slice A n c, .int .i64 m, .int .i64 r] w fun e w' => e = .returned (.bool true) ∧ Below w.heap.size w w' := by
  go_enter Try.func7, Try.ntmps7
  go_wp2_with (first
    | (go_at_call 10; refine (works_any _).mono ?_; rintro e w' ⟨rfl, hbn⟩; (first | (replace hbw := bstep hbw (Nat.le_refl _) hbn; clear hbn) | (have hbw := hbn; clear hbn))))
  all_goals (go_ret; exact ⟨rfl, hbw⟩)

theorem ahead_walk (A : Option Addr) (n c : Nat) (m r : Int) (l : List F) (w : World) (hl : l.length = n) (hrd : Rd w w.heap.size A l) (hm : n ≤ 9223372036854775807) :
    Calls Try.prog 7 #[.slice A n c, .int .i64 m, .int .i64 r] w fun e w' => e = .returned (.bool true) ∧ Below w.heap.size w w' := by
  by_cases hr : r < 0
  · exact ahead_neg A n c m r w hm hr
  · obtain ⟨r', rfl⟩ := Int.eq_ofNat_of_zero_le (show 0 ≤ r by omega)
    obtain ⟨k, hk, hk2⟩ := mod100 m 100 (by omega) (by omega)
    exact ahead_nat A n c m r' k l w hl hrd hm hk (by omega)
end Go.Proofs.Ytnbekifcajmdkaa
