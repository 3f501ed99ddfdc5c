/- The walk of the statement RsFewer: fewer checks. -/
import Derived.Test.YtnbekifcajmdkaaRsu
namespace Go.Proofs.Ytnbekifcajmdkaa
open Go.RowKit

theorem right_word (l : List F) (r s : Nat) (hl : l.length + r ≤ 255) (hs : s ≤ r) : rightB (wordL l r) (s : Int) = true := by
  rw [rightB_iff (by rw [wordL_length]; exact hl), wordL_length]
  exact ⟨by omega, fun j hj => hv_word l r j (by omega)⟩
theorem sums_fewer (l : List F) (r s : Nat) (hs : s ≤ r) : (sumsL l r).take s = sumsL l s := by
  refine tab_ext (by rw [List.length_take, sumsL, tab_length]; omega) fun j hj => ?_
  have e : ((sumsL l r).take s).getD j 0 = (sumsL l r).getD j 0 := by
    simp only [List.getD, List.getElem?_take, if_pos hj]
  rw [e, sumsL, tab_getD _ _ _ (by omega)]
theorem right_fewer (l : List F) (r s : Nat) (hl : l.length ≤ 255) (h : rightB l (r : Int) = true) (hs : s ≤ r) (hsl : s ≤ l.length) : rightB l (s : Int) = true := by
  rw [rightB_iff hl] at h ⊢
  exact ⟨hsl, fun j hj => h.2 j (by omega)⟩
theorem Rd.take {w : World} {B : Nat} {A : Option Addr} {l : List F} (h : Rd w B A l) (k : Nat) : Rd w B A (l.take k) := fun h0 => by
  rw [List.length_take] at h0
  obtain ⟨b, off, hA, hlt, hc⟩ := h (by omega)
  refine ⟨b, off, hA, hlt, fun j hj => ?_⟩
  rw [List.length_take] at hj
  rw [hc j (by omega)]
  simp only [List.getD, List.getElem?_take, if_pos (show j < k by omega)]

set_option maxRecDepth 100000 in
set_option maxHeartbeats 4000000 in
theorem fewer_nat (A Ao : Option Addr) (n c no co : Nat) (r s : Nat) (l lo : List F) (w : World) (hl : l.length = n) (hrd : Rd w w.heap.size A l) (hlo : lo.length = no) (hrdo : Rd w w.heap.size Ao lo) (hm : n ≤ 9223372036854775807) :
    Calls Try.prog 8 #[.slice A n c, .int .i64 r, .int .i64 s, .slice Ao no co] w fun e w' => e = .returned (.bool true) ∧ Below w.heap.size w w' := by
  have HL := Lib.hid hl
  have HRD := Lib.hid hrd
  have HLO := Lib.hid hlo
  have HRO := Lib.hid hrdo
  clear hl hrd hlo hrdo
  go_enter Try.func8, Try.ntmps8
  go_wp2_with (first
    | (go_at_call 10; refine (works_any _).mono ?_; rintro e w' ⟨rfl, hbn⟩; (first | (replace hbw := bstep hbw (Nat.le_refl _) hbn; clear hbn) | (have hbw := hbn; clear hbn))))
  all_goals first | (go_ret; exact ⟨rfl, hbw⟩) | skip
  have hn2 : n ≤ 200 := by omega
  have hs2 : n + r ≤ 255 := by omega
  have hs3 : s ≤ r := by omega
  have ho2 : no ≤ 255 := by omega
  refine (word_any A n c r l _ HL.out (by exact (HRD.out.below hbw).more hbw.size) (by omega)).mono ?_
  rintro e w5 ⟨A5, c5, rfl, hown5, hb5⟩
  rw [wordL_length, HL.out] at hown5 ⊢
  replace hbw := bstep hbw (Nat.le_refl _) hb5
  have R5 := Lib.hid hown5.rd
  clear hown5 hb5
  go_wp2_with fail
  refine (right_any A5 (n + r) c5 s (wordL l r) _ (by rw [wordL_length, HL.out]) (by exact R5.out)).mono ?_
  rintro e w6 ⟨rfl, hb6⟩
  rw [right_word l r s (by rw [HL.out]; exact hs2) hs3]
  replace hbw := bstep hbw (Nat.le_refl _) hb6
  clear hb6 R5
  go_wp2_with fail
  refine (sums_ok Ao no co r lo _ HLO.out (by exact (HRO.out.below hbw).more hbw.size) ho2 (by omega)).mono ?_
  rintro e w7 ⟨A7, c7, rfl, hown7, hb7⟩
  have hl7 : (sumsL lo r).length = r := tab_length _ _
  rw [hl7] at hown7 ⊢
  replace hbw := bstep hbw (Nat.le_refl _) hb7
  have R7 := Lib.hid (hown7.rd.take s)
  have hcap := hown7.cap.1
  clear hown7 hb7 hl7
  go_wp2_with fail
  refine (sums_ok Ao no co s lo _ HLO.out (by exact (HRO.out.below hbw).more hbw.size) ho2 (by omega)).mono ?_
  rintro e w8 ⟨A8, c8, rfl, hown8, hb8⟩
  have hl8 : (sumsL lo s).length = s := tab_length _ _
  rw [hl8] at hown8 ⊢
  replace hbw := bstep hbw (Nat.le_refl _) hb8
  have R78 := Lib.hid ((R7.out.below hb8).more hb8.size)
  have R8 := Lib.hid hown8.rd
  clear hown8 hb8 hl8 R7
  go_wp2_with fail
  refine (same_any A7 A8 s c7 s c8 _ _ ((sumsL lo r).take s) (sumsL lo s) _ (by rw [List.length_take, sumsL, tab_length]; omega) (tab_length _ _) R78.out R8.out (Nat.le_refl _) (Nat.le_refl _) (by unfold maxLen; omega)).mono ?_
  rintro e w9 ⟨rfl, hb9⟩
  rw [sums_fewer lo r s hs3, decide_eq_true rfl]
  replace hbw := bstep hbw (Nat.le_refl _) hb9
  clear hb9 R78 R8
  go_wp2_with fail
  refine (right_any Ao no co r lo _ HLO.out (by exact (HRO.out.below hbw).more hbw.size)).mono ?_
  rintro e w10 ⟨rfl, hb10⟩
  replace hbw := bstep hbw (Nat.le_refl _) hb10
  clear hb10
  rcases Bool.eq_false_or_eq_true (rightB lo (r : Int)) with hq | hq
  · have HQ := Lib.hid hq
    rw [hq]
    clear hq
    by_cases hsn : no < s
    · go_wp2_with fail
      go_ret
      exact ⟨rfl, hbw⟩
    · go_wp2_with fail
      refine (right_any Ao no co s lo _ HLO.out (by exact (HRO.out.below hbw).more hbw.size)).mono ?_
      rintro e w11 ⟨rfl, hb11⟩
      rw [right_fewer lo r s (by rw [HLO.out]; exact ho2) HQ.out hs3 (by rw [HLO.out]; omega)]
      go_wp2_with fail
      go_ret
      exact ⟨rfl, bstep hbw (Nat.le_refl _) hb11⟩
  · rw [hq]
    clear hq
    go_wp2_with fail
    go_ret
    exact ⟨rfl, hbw⟩

set_option maxHeartbeats 1000000 in
theorem fewer_neg (A Ao : Option Addr) (n c no co : Nat) (r s : Int) (w : World) (hm : n ≤ 9223372036854775807) (hr : r < 0 ∨ s < 0) :
    Calls Try.prog 8 #[.slice A n c, .int .i64 r, .int .i64 s, .slice Ao no co] w fun e w' => e = .returned (.bool true) ∧ Below w.heap.size w w' := by
  rcases hr with hr | hr
  all_goals
    go_enter Try.func8, Try.ntmps8
    go_wp2_with (first
      | (go_at_call 10; refine (works_any _).mono ?_; rintro e w' ⟨rfl, hbn⟩; (first | (replace hbw := bstep hbw (Nat.le_refl _) hbn; clear hbn) | (have hbw := hbn; clear hbn))))
    all_goals (go_ret; exact ⟨rfl, hbw⟩)

theorem fewer_walk (A Ao : Option Addr) (n c no co : Nat) (r s : Int) (l lo : List F) (w : World) (hl : l.length = n) (hrd : Rd w w.heap.size A l) (hlo : lo.length = no) (hrdo : Rd w w.heap.size Ao lo) (hm : n ≤ 9223372036854775807) :
    Calls Try.prog 8 #[.slice A n c, .int .i64 r, .int .i64 s, .slice Ao no co] w fun e w' => e = .returned (.bool true) ∧ Below w.heap.size w w' := by
  by_cases hr : r < 0 ∨ s < 0
  · exact fewer_neg A Ao n c no co r s w hm hr
  · obtain ⟨r', rfl⟩ := Int.eq_ofNat_of_zero_le (show 0 ≤ r by omega)
    obtain ⟨s', rfl⟩ := Int.eq_ofNat_of_zero_le (show 0 ≤ s by omega)
    exact fewer_nat A Ao n c no co r' s' l lo w hl hrd hlo hrdo hm
end Go.Proofs.Ytnbekifcajmdkaa
