/- The walks of the document's small words: whether places may be asked, points, sums, how many wrong symbols. -/
import Derived.Test.YtbahelhhkmonmaaDv
import Derived.Test.YtbahelhhkmonmaaOg
import Derived.Test.YtbahelhhkmonmaaRw
namespace Go.Proofs.Ytbahelhhkmonmaa
open Go.RowKit Go.Shelf

theorem get_of {zs : List Int} {i : Nat} (h : i < zs.length) : zs[i]?.getD 0 = zs[i] := by rw [List.getElem?_eq_getElem h]; rfl
theorem may_no_range {n : Nat} {r : Int} {zs : List Int} {i : Nat} (h : i < zs.length) (hb : zs[i]?.getD 0 < 0 ∨ (n : Int) ≤ zs[i]?.getD 0) : mayB n r zs = false := by
  rw [Bool.eq_false_iff]
  intro h2
  have := (mayB_iff.1 h2).2.2 zs[i] (List.getElem_mem h)
  rw [get_of h] at hb
  omega
theorem may_no_twice {n : Nat} {r : Int} {zs : List Int} {i k : Nat} (h : i < zs.length) (hk : k < i) (hb : zs[k]?.getD 0 = zs[i]?.getD 0) : mayB n r zs = false := by
  rw [Bool.eq_false_iff]
  intro h2
  rw [get_of h, get_of (by omega)] at hb
  exact List.pairwise_iff_getElem.1 (mayB_iff.1 h2).2.1 k i (by omega) h hk hb
theorem may_yes {n : Nat} {r : Int} {zs : List Int} (h : 1 ≤ n ∧ n ≤ 255 ∧ 0 ≤ r ∧ r ≤ (n : Int)) (h1 : ∀ i, i < zs.length → 0 ≤ zs[i]?.getD 0 ∧ zs[i]?.getD 0 < (n : Int)) (h2 : ∀ i, i < zs.length → ∀ k, k < i → zs[k]?.getD 0 ≠ zs[i]?.getD 0) : mayB n r zs = true := by
  refine mayB_iff.2 ⟨h, List.pairwise_iff_getElem.2 fun k i hk hi hki e => h2 i hi k hki (by rw [get_of hi, get_of hk]; exact e), fun z hz => ?_⟩
  obtain ⟨i, hi, rfl⟩ := List.getElem_of_mem hz
  have := h1 i hi
  rwa [get_of hi] at this

set_option maxRecDepth 100000 in
set_option maxHeartbeats 2000000 in
theorem rmay_any (A : Option Addr) (len cap : Nat) (zs : List Int) (n : Nat) (r : Int) (w : World) (hlen : zs.length = len) (hm : len ≤ 1000000) (hI : RdI w w.heap.size A zs) (hn63 : n ≤ 9223372036854775807) :
    Calls Try.prog 23 #[.int .i64 n, .int .i64 r, .slice A len cap] w fun e w' => e = .returned (.bool (mayB n r zs)) ∧ Below w.heap.size w w' := by
  by_cases hg : 1 ≤ n ∧ n ≤ 255 ∧ 0 ≤ r ∧ r ≤ (n : Int)
  case neg =>
    have hb : mayB n r zs = false := decide_eq_false fun h => hg ⟨h.1, h.2.1, h.2.2.1, h.2.2.2.1⟩
    rw [hb]
    have t1 : (decide ((n : Int) < 1) || decide ((255 : Int) < (n : Int)) || decide (r < 0) || decide ((n : Int) < r)) = true := by
      simp only [Bool.or_eq_true, decide_eq_true_iff]
      omega
    clear hg hb
    go_enter Try.func23, Try.ntmps23
    go_wp2
    all_goals (go_ret; exact ⟨rfl, Below.refl _ _⟩)
  case pos =>
    have HG := Lib.hid hg
    obtain ⟨g1, g2, g3, g4⟩ := hg
    have HL := Lib.hid hlen
    have HI := Lib.hid hI
    have NR := Lib.hid (fun i (h : i < len) => may_no_range (n := n) (r := r) (zs := zs) (i := i) (by omega))
    have NT := Lib.hid (fun i (h : i < len) k => may_no_twice (n := n) (r := r) (zs := zs) (i := i) (k := k) (by omega))
    have YS := Lib.hid (may_yes (zs := zs) HG.out)
    clear hlen hI
    have g1' : ¬ ((n : Int) < 1) := by omega
    have g2' : ¬ ((255 : Int) < (n : Int)) := by omega
    have g3' : ¬ (r < 0) := by omega
    have g4' : ¬ ((n : Int) < r) := by omega
    go_enter Try.func23, Try.ntmps23
    go_wp2_with fail
    go_loopw [7] (fun v wr => ∃ i : Nat, i ≤ len ∧ v = .int .i64 i ∧ Hid (∀ k, k < i → (0 ≤ zs[k]?.getD 0 ∧ zs[k]?.getD 0 < (n : Int)) ∧ ∀ j, j < k → zs[j]?.getD 0 ≠ zs[k]?.getD 0) ∧ Below w.heap.size w wr) (fun v _ => len - (intOf v).toNat)
    case atStart => exact ⟨0, Nat.zero_le _, rfl, fun k hk => by omega, Below.refl _ _⟩
    case round =>
      obtain ⟨i, hi, rfl, HZ, hbel⟩ := hrel
      have HB := Lib.hid hbel
      by_cases hlt : i < len
      · obtain ⟨b, off, rfl, hb, hc⟩ := (HI.out.below hbel) (by rw [HL.out]; omega)
        have c1 := hc i (by rw [HL.out]; exact hlt)
        have HC := Lib.hid (fun k (h : k < len) => hc k (by rw [HL.out]; exact h))
        clear hc hbel
        have NRi := Lib.hid (NR.out i hlt)
        have NTi := Lib.hid (NT.out i hlt)
        obtain ⟨x, hx⟩ : ∃ x, x = zs[i]?.getD 0 := ⟨_, rfl⟩
        rw [← hx] at c1 NRi NTi
        have HX := Lib.hid hx
        clear hx
        by_cases hx0 : x < 0
        · have e := Lib.hid (NRi.out (.inl hx0)).symm
          go_wp2_with fail
          go_ret
          exact ⟨ebool e.out, HB.out⟩
        · by_cases hxn : (n : Int) ≤ x
          · have e := Lib.hid (NRi.out (.inr hxn)).symm
            go_wp2_with fail
            go_ret
            exact ⟨ebool e.out, HB.out⟩
          · have hx1 : 0 ≤ x := by omega
            have hx2 : x < (n : Int) := by omega
            obtain ⟨wo, rfl⟩ : ∃ wo, wo = wr := ⟨_, rfl⟩
            go_wp2_with fail
            go_loopw [8] (fun v wr => ∃ k : Nat, k ≤ i ∧ v = .int .i64 k ∧ Hid (∀ j, j < k → zs[j]?.getD 0 ≠ x) ∧ Below w.heap.size w wr ∧ Below w.heap.size wo wr) (fun v _ => i - (intOf v).toNat)
            case atStart => exact ⟨0, Nat.zero_le _, rfl, fun j hj => by omega, HB.out, Below.refl _ _⟩
            case round =>
              obtain ⟨k, hk, rfl, HK, hbel, hbo⟩ := hrel
              have HB2 := Lib.hid hbel
              have HBO := Lib.hid hbo
              by_cases hki : k < i
              · have d1 := (hbo.cell (p := ⟨b, off + i, none⟩) hb).trans c1
                have d2 := (hbo.cell (p := ⟨b, off + k, none⟩) hb).trans (HC.out k (by omega))
                have q1 : (0 : Int) ≤ (k : Int) := by omega
                have q2 : (k : Int) < (len : Int) := by omega
                have q3 : (0 : Int) ≤ (i : Int) := by omega
                have q4 : (i : Int) < (len : Int) := by omega
                clear hbel hbo
                by_cases he : zs[k]?.getD 0 = x
                · have e := Lib.hid (NTi.out k hki he).symm
                  rw [he] at d2
                  clear he
                  go_wp2_with fail
                  go_quiet (fail)
                  go_wp2_with fail
                  go_ret
                  exact ⟨ebool e.out, below_drewN HB2.out _⟩
                · have t1 : (zs[k]?.getD 0 == x) = false := by rw [beq_eq_false_iff_ne]; exact he
                  have HK2 := Lib.hid (show ∀ j, j < k + 1 → zs[j]?.getD 0 ≠ x from fun j hj => by
                    rcases Nat.lt_or_ge j k with h | h
                    · exact HK.out j h
                    · obtain rfl : j = k := by omega
                      exact he)
                  clear he
                  generalize zs[k]?.getD 0 = y at d2 t1
                  go_wp2_with fail
                  go_quiet (fail)
                  go_wp2_with fail
                  go_roundw
                  case rel => exact ⟨k + 1, by omega, by go_num, HK2, below_drewN HB2.out _, below_drewN HBO.out _⟩
                  case measure => simp only [intOf]; omega
              · obtain rfl : k = i := by omega
                have HZ2 := Lib.hid (show ∀ j, j < k + 1 → (0 ≤ zs[j]?.getD 0 ∧ zs[j]?.getD 0 < (n : Int)) ∧ ∀ m, m < j → zs[m]?.getD 0 ≠ zs[j]?.getD 0 from fun j hj => by
                  rcases Nat.lt_or_ge j k with h | h
                  · exact HZ.out j h
                  · obtain rfl : j = k := by omega
                    rw [← HX.out]
                    exact ⟨⟨hx1, hx2⟩, HK.out⟩)
                go_wp2_with fail
                go_roundw
                case rel => exact ⟨k + 1, by omega, by go_num, HZ2, HB2.out⟩
                case measure => simp only [intOf]; omega
      · obtain rfl : i = len := by omega
        have e := Lib.hid (YS.out (fun i hi => (HZ.out i (by rw [← HL.out]; exact hi)).1) (fun i hi => (HZ.out i (by rw [← HL.out]; exact hi)).2)).symm
        go_wp2_with fail
        go_ret
        exact ⟨ebool e.out, HB.out⟩

set_option maxHeartbeats 400000 in
theorem rmost_any (r : Int) (g : Nat) (w : World) (hr : r ≤ 9223372036854775807) :
    Calls Try.prog 12 #[.int .i64 r, .int .i64 g] w fun e w' => e = .returned (.int .i64 (mostZ r g)) ∧ w = w' := by
  by_cases h : r < (g : Int)
  · have e : mostZ r g = -1 := if_pos h
    have HE := Lib.hid e
    clear e
    go_enter Try.func12, Try.ntmps12
    go_wp2
    go_ret
    exact ⟨eint HE.out.symm, rfl⟩
  · have e : mostZ r g = (r - (g : Int)) / 2 := if_neg h
    have HE := Lib.hid e
    have h' : (g : Int) ≤ r := by omega
    have q0 : 0 ≤ r - (g : Int) := by omega
    have q1 : r - (g : Int) ≤ 9223372036854775807 := by omega
    clear e
    go_enter Try.func12, Try.ntmps12
    go_wp2
    go_ret
    exact ⟨eint HE.out.symm, rfl⟩

theorem rexp_k (k : Nat) (w : World) (hk : k < 65535) : Calls Try.prog 45 #[.int .i64 k] w fun e w' => e = .returned (.int .u16 (F.px k).nat) ∧ w = w' :=
  (rexp_any (k : Int) w).mono fun e w' ⟨he, hw⟩ => ⟨by rw [he, show ((k : Int) % 65535).toNat = k by omega], hw⟩

set_option maxHeartbeats 400000 in
theorem rpoint_any (n i : Nat) (w : World) (hi : i < n) (hn : n ≤ 255) :
    Calls Try.prog 25 #[.int .i64 n, .int .i64 i] w fun e w' => e = .returned (.int .u16 (F.px (n - 1 - i)).nat) ∧ w = w' := by
  obtain ⟨k, hk⟩ : ∃ k, k = n - 1 - i := ⟨_, rfl⟩
  have q1 : wrap64 ((n : Int) - 1) = (n : Int) - 1 := IntWalk.wrap64_in _ ⟨by omega, by omega⟩
  have q2 : wrap64 ((n : Int) - 1 - (i : Int)) = (k : Int) := by rw [IntWalk.wrap64_in _ ⟨by omega, by omega⟩]; omega
  have q3 : (n : Int) - 1 - (i : Int) = (k : Int) := by omega
  have hk2 : k < 65535 := by omega
  have HK := Lib.hid hk2
  rw [← hk]
  clear hk hk2
  go_enter Try.func25, Try.ntmps25
  go_wp2_with fail
  refine (rexp_k k _ HK.out).mono ?_
  rintro e w' ⟨rfl, rfl⟩
  go_wp2_with fail
  go_ret
  exact ⟨rfl, rfl⟩

set_option maxRecDepth 100000 in
set_option maxHeartbeats 2000000 in
theorem rsums4_any (A : Option Addr) (n c r : Nat) (l : List F) (w : World) (hl : l.length = n) (hrd : Rd w w.heap.size A l) (hn : n ≤ 255) (hr : r ≤ 255) :
    Calls Try.prog 24 #[.slice A n c, .int .i64 r] w fun e w' => ∃ A' c', e = .returned (.slice A' r c') ∧ Own w' w.heap.size A' r c' (sumsL l r) ∧ Below w.heap.size w w' := by
  have HL := Lib.hid hl
  have HRD := Lib.hid hrd
  clear hl hrd
  go_enter Try.func24, Try.ntmps24
  go_wp2_with fail
  go_loopw [5, 6] (fun v j wr => ∃ (k : Nat) (A' : Option Addr) (c' : Nat), k ≤ r ∧ j = .int .i64 k ∧ v = .slice A' k c' ∧ Own wr w.heap.size A' k c' (tab k fun j => hv l (F.px j)) ∧ Below w.heap.size w wr) (fun _ j _ => r - (intOf j).toNat)
  case atStart => exact ⟨0, none, 0, by omega, rfl, rfl, Own.nil _ _, Below.refl _ _⟩
  case round =>
    obtain ⟨k, A', c', hk, rfl, rfl, hown, hbel⟩ := hrel
    have HO := Lib.hid hown
    have HB := Lib.hid hbel
    clear hown hbel
    by_cases hkr : k < r
    · have HT := Lib.hid (show tab k (fun j => hv l (F.px j)) ++ [hv l (F.px k)] = tab (k + 1) (fun j => hv l (F.px j)) by simp [tab, List.range_succ])
      generalize tab k (fun j => hv l (F.px j)) = o at HO HT
      obtain ⟨x, hx⟩ : ∃ x, x = F.px k := ⟨_, rfl⟩
      rw [← hx] at HT
      have HX := Lib.hid hx
      clear hx
      obtain ⟨wo, rfl⟩ : ∃ wo, wo = wr := ⟨_, rfl⟩
      have hk5 : k < 65535 := by omega
      have HK5 := Lib.hid hk5
      clear hk5
      go_wp2_with fail
      refine (rexp_k k _ HK5.out).mono ?_
      rintro e w' ⟨rfl, rfl⟩
      rw [← HX.out]
      go_wp2_with fail
      go_loopw [8, 9] (fun v i wr => ∃ m : Nat, m ≤ n ∧ i = .int .i64 m ∧ v = .int .u16 (hv (l.take m) x).nat ∧ Below wo.heap.size wo wr) (fun _ i _ => n - (intOf i).toNat)
      case atStart => exact ⟨0, Nat.zero_le _, rfl, rfl, Below.refl _ _⟩
      case round =>
        obtain ⟨m, hm, rfl, rfl, hbel⟩ := hrel
        have HB2 := Lib.hid hbel
        by_cases hmn : m < n
        · obtain ⟨b, off, rfl, hb, hc⟩ := (((HRD.out.below HB.out).more HB.out.size).below hbel) (by rw [HL.out]; omega)
          have c1 := hc m (by rw [HL.out]; exact hmn)
          have HS := Lib.hid (hv_take (l := l) (i := m) (by rw [HL.out]; exact hmn) x)
          generalize hv (l.take m) x = y at HS ⊢
          generalize l.getD m 0 = z at c1 HS
          have q1 : (0 : Int) ≤ (m : Int) := by omega
          have q2 : (m : Int) < (n : Int) := by omega
          clear hc hbel
          go_wp2_with fail
          go_quiet ((go_at_call 26; exact qs (rmul_any _ _ y x _ rfl rfl)))
          go_wp2_with fail
          go_roundw
          case rel => exact ⟨m + 1, by omega, by go_num, by rw [HS.out]; exact vxor _ _, below_drewN HB2.out _⟩
          case measure => simp only [intOf]; omega
        · obtain rfl : m = n := by omega
          have HTK := Lib.hid (show l.take m = l from List.take_of_length_le (by rw [HL.out]; exact Nat.le_refl _))
          rw [HTK.out]
          have HO2 := Lib.hid (HO.out.below hbel)
          have HB3 := Lib.hid (bstep HB.out (Nat.le_refl _) hbel)
          generalize hv l x = y at HT ⊢
          clear hbel HB2
          go_wp2_with (at_builtin; refine wpList_push _ rfl _ _ rfl w.heap.size _ _ _ _ rfl (HO2.out.alloc _) wr.heap.size 1 y _ rfl rfl (by go_cell) (by omega) (by have := HB3.out.size; simp; omega) ?_; intro A2 c2 w1 hown1 hb1 hg1)
          go_roundw
          case rel => exact ⟨k + 1, A2, c2, by omega, by go_num, rfl, by rw [← HT.out]; exact hown1, (HB3.out.alloc HB3.out.size _).trans hb1⟩
          case measure => simp only [intOf]; omega
    · obtain rfl : k = r := by omega
      go_wp2_with fail
      go_ret
      exact ⟨A', c', rfl, HO.out, HB.out⟩
end Go.Proofs.Ytbahelhhkmonmaa
