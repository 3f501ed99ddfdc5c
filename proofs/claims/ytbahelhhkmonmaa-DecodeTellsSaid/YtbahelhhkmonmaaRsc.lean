/- The walks of the document's words with checks: values, sums, whether a word is right. -/
import Derived.Test.YtbahelhhkmonmaaRsr
import Derived.Test.YtbahelhhkmonmaaRw
import Derived.Test.YtbahelhhkmonmaaPm
namespace Go.Proofs.Ytbahelhhkmonmaa
open Go.RowKit

theorem hv_drop {l : List F} {i : Nat} (hi : i < l.length) (x : F) : hv (l.drop i) x = l.getD i 0 * F.pow x (l.length - 1 - i) + hv (l.drop (i + 1)) x := by
  rw [List.drop_eq_getElem_cons hi, hv_cons, List.getD, List.getElem?_eq_getElem hi, List.length_drop, show l.length - (i + 1) = l.length - 1 - i from by omega]
  rfl
set_option maxRecDepth 100000 in
set_option maxHeartbeats 4000000 in
theorem rvalue_any (A : Option Addr) (n c : Nat) (l : List F) (x : F) (w : World) (hl : l.length = n) (hr : Rd w w.heap.size A l) (hn : n ≤ 50000) :
    Calls Try.prog 63 #[.slice A n c, .int .u16 x.nat] w fun e w' => e = .returned (.int .u16 (hv l x).nat) ∧ Below w.heap.size w w' := by
  have HL := Lib.hid hl
  have HR := Lib.hid hr
  have q0 : IntKind.i64.wrap ((n : Int) - 1) = (n : Int) - 1 := IntWalk.i64_in _ ⟨by omega, by omega⟩
  clear hl hr
  go_enter Try.func63, Try.ntmps63
  go_wp2
  go_loopw [5, 6, 7] (fun v p j wr => ∃ (k : Nat), k ≤ n ∧ j = .int .i64 ((k : Int) - 1) ∧ v = .int .u16 (hv (l.drop k) x).nat ∧ p = .int .u16 (F.pow x (n - k)).nat ∧ Below w.heap.size w wr) (fun _ _ j _ => (intOf j + 1).toNat)
  case atStart => exact ⟨n, Nat.le_refl _, rfl, by rw [List.drop_of_length_le (by rw [HL.out]; omega)]; rfl, by rw [Nat.sub_self]; rfl, Below.refl _ _⟩
  case round =>
    obtain ⟨k, hk, rfl, rfl, rfl, hb⟩ := hrel
    by_cases hk0 : k = 0
    · subst hk0
      rw [List.drop_zero]
      go_wp2
      go_ret
      exact ⟨rfl, hb⟩
    · obtain ⟨i, rfl⟩ : ∃ i, k = i + 1 := ⟨k - 1, by omega⟩
      obtain ⟨b, off, rfl, hlt, hc⟩ := (HR.out.below hb) (by rw [HL.out]; omega)
      have cc := hc i (by rw [HL.out]; omega)
      have HX := Lib.hid (hv_drop (l := l) (i := i) (by rw [HL.out]; omega) x)
      rw [HL.out, show n - 1 - i = n - (i + 1) from by omega] at HX
      have HP := Lib.hid (show F.pow x (n - i) = F.pow x (n - (i + 1)) * x by rw [show n - i = n - (i + 1) + 1 from by omega]; rfl)
      clear hc
      generalize hv (l.drop (i + 1)) x = v at HX
      generalize F.pow x (n - (i + 1)) = p at HX HP
      generalize l.getD i 0 = y at cc HX
      rw [F.add_comm] at HX
      have hxor := bits_xor v (y * p)
      have z1 : (((i + 1 : Nat) : Int) - 1) = (i : Int) := by omega
      rw [z1]
      have q1 : (0 : Int) ≤ (i : Int) := by omega
      have q2 : (i : Int) < (n : Int) := by omega
      have q3 : IntKind.i64.wrap ((i : Int) - 1) = (i : Int) - 1 := IntWalk.i64_in _ ⟨by omega, by omega⟩
      clear z1
      go_wp2_with fail
      refine (rmul_any _ _ y p _ rfl rfl).mono ?_
      rintro e w1 ⟨rfl, rfl⟩
      go_wp2_with fail
      refine (rmul_any _ _ p x _ rfl rfl).mono ?_
      rintro e w1 ⟨rfl, rfl⟩
      go_wp2_with fail
      go_roundw
      case rel => exact ⟨i, by omega, rfl, by rw [HX.out], by rw [HP.out], hb⟩
      case measure => simp only [intOf]; omega

theorem tab_snoc' (f : Nat → F) (i : Nat) : tab i f ++ [f i] = tab (i + 1) f := by simp [tab, List.range_succ]
set_option maxRecDepth 100000 in
set_option maxHeartbeats 4000000 in
theorem rsums_ok (A : Option Addr) (n c r : Nat) (l : List F) (w : World) (hl : l.length = n) (hrd : Rd w w.heap.size A l) (hn : n ≤ 255) (hr : r ≤ 255) :
    Calls Try.prog 47 #[.slice A n c, .int .i64 r] w (RetOwn2 w (sumsL l r)) := by
  have t1 : decide ((255 : Int) < (n : Int)) = false := by simp; omega
  have t2 : decide ((r : Int) < 0) = false := by simp
  have t3 : decide ((255 : Int) < (r : Int)) = false := by simp; omega
  have HL := Lib.hid hl
  have HRD := Lib.hid hrd
  clear hl hrd
  go_enter Try.func47, Try.ntmps47
  go_wp2
  go_loopw [6, 7, 8] (fun v p j wr => ∃ (k : Nat) (A : Option Addr) (c : Nat), k ≤ r ∧ j = .int .i64 k ∧ p = .int .u16 (F.px k).nat ∧ v = .slice A k c ∧ Own wr w.heap.size A k c (tab k (fun j => hv l (F.px j))) ∧ Below w.heap.size w wr) (fun _ _ j _ => r - (intOf j).toNat)
  case atStart => exact ⟨0, _, _, by omega, rfl, rfl, rfl, Own.lit w w.heap.size [] _ (Nat.le_refl _) (by decide) rfl, balloc _ _⟩
  case round =>
    obtain ⟨k, A', c', hk, rfl, rfl, rfl, hown, hb⟩ := hrel
    have HO := Lib.hid hown
    have HB := Lib.hid hb
    have hsz := hb.size
    clear hown hb
    by_cases hkr : k < r
    · have HS := Lib.hid (tab_snoc' (fun j => hv l (F.px j)) k)
      have HPX := Lib.hid (show F.px (k + 1) = F.px k * F.px 1 by rw [F.px_succ, F.mx_eq])
      generalize tab k (fun j => hv l (F.px j)) = cur at HO HS
      generalize F.px k = p at HS HPX
      go_wp2_with fail
      refine (rvalue_any A n c l p _ HL.out (by exact (HRD.out.below HB.out).more HB.out.size) (by omega)).mono ?_
      rintro e w1 ⟨rfl, hb1⟩
      replace HO := Lib.hid (HO.out.below hb1)
      replace HB := Lib.hid (bstep HB.out (Nat.le_refl _) hb1)
      have hsz1 := HB.out.size
      clear hb1 hsz
      generalize hv l p = v at HS
      go_wp2_with (first
        | (at_builtin; refine wpList_push _ rfl _ _ rfl w.heap.size _ _ _ _ rfl (HO.out.alloc _) w1.heap.size 1 v _ rfl rfl (by go_cell) (by omega) (by simp; omega) ?_; intro A5 c5 w5 hown1 hb1 hg1)
        | (go_at_call 26; refine (rmul_any _ _ p (F.px 1) _ rfl (by rfl)).mono ?_; rintro e w' ⟨rfl, rfl⟩))
      go_roundw
      case rel => exact ⟨k + 1, A5, c5, by omega, by go_num, by rw [HPX.out], rfl, by rw [← HS.out]; exact hown1, (HB.out.alloc HB.out.size _).trans hb1⟩
      case measure => simp only [intOf]; omega
    · obtain rfl : k = r := by omega
      go_wp2
      go_ret2
      have hl := tab_length k (fun j => hv l (F.px j))
      refine ⟨A', c', etup_sn hl.symm, ?_, HB.out⟩
      show Own wr w.heap.size A' (tab k fun j => hv l (F.px j)).length c' (tab k fun j => hv l (F.px j))
      rw [hl]; exact HO.out

set_option maxHeartbeats 400000 in
theorem rsums_bad (A : Option Addr) (n c : Nat) (r : Int) (w : World) (h : 255 < n ∨ r < 0 ∨ 255 < r) :
    Calls Try.prog 47 #[.slice A n c, .int .i64 r] w fun e w' => e = .returned (.tuple #[.slice none 0 0, .int .i64 1]) ∧ w = w' := by
  by_cases h1 : 255 < n
  · have t1 : decide ((255 : Int) < (n : Int)) = true := by simp; omega
    clear h h1
    go_enter Try.func47, Try.ntmps47
    go_wp2
    go_ret2
    exact ⟨rfl, rfl⟩
  · have t1 : decide ((255 : Int) < (n : Int)) = false := by simp; omega
    by_cases h2 : r < 0
    · have t2 : decide (r < 0) = true := by simp; omega
      clear h h1 h2
      go_enter Try.func47, Try.ntmps47
      go_wp2
      go_ret2
      exact ⟨rfl, rfl⟩
    · have t2 : decide (r < 0) = false := by simp; omega
      have t3 : decide ((255 : Int) < r) = true := by simp; omega
      clear h h1 h2
      go_enter Try.func47, Try.ntmps47
      go_wp2
      go_ret2
      exact ⟨rfl, rfl⟩

theorem nought_iff_sums {l : List F} {r : Nat} : Nought l r ↔ ∀ j, j < r → (sumsL l r).getD j 0 = 0 := by
  constructor
  · intro h j hj
    rw [sumsL, tab_getD _ _ _ hj]
    exact h j hj
  · intro h j hj
    have := h j hj
    rwa [sumsL, tab_getD _ _ _ hj] at this

set_option maxRecDepth 100000 in
set_option maxHeartbeats 4000000 in
theorem rright_any (A : Option Addr) (n c : Nat) (r : Int) (l : List F) (w : World) (hl : l.length = n) (hrd : Rd w w.heap.size A l) (_hm : n ≤ 9223372036854775807) :
    Calls Try.prog 29 #[.slice A n c, .int .i64 r] w fun e w' => e = .returned (.bool (rightB l r)) ∧ Below w.heap.size w w' := by
  by_cases h : 255 < n ∨ r < 0 ∨ 255 < r
  · have hb : rightB l r = false := decide_eq_false fun h2 => by omega
    rw [hb]
    have H := Lib.hid h
    clear h hb hl hrd
    go_enter Try.func29, Try.ntmps29
    go_wp2_with (go_at_call 47; refine (rsums_bad A n c r _ H.out).mono ?_; rintro e w' ⟨rfl, rfl⟩)
    go_ret
    exact ⟨rfl, Below.refl _ _⟩
  · obtain ⟨k, rfl⟩ := Int.eq_ofNat_of_zero_le (show 0 ≤ r by omega)
    have hk : k ≤ 255 := by omega
    have hn : n ≤ 255 := by omega
    have HI := Lib.hid (rightB_iff (l := l) (r := k) (by omega))
    have HN := Lib.hid (nought_iff_sums (l := l) (r := k))
    have HL := Lib.hid hl
    have HRD := Lib.hid hrd
    clear h hl hrd
    by_cases hkn : n < k
    · have hb : rightB l (k : Int) = false := by
        rw [Bool.eq_false_iff]
        intro h2
        have := (HI.out.1 h2).1
        rw [HL.out] at this
        omega
      rw [hb]
      clear hb
      go_enter Try.func29, Try.ntmps29
      go_wp2_with (go_at_call 47; refine (rsums_ok A n c k l _ HL.out HRD.out hn hk).mono ?_; rintro e w' ⟨A', c', rfl, hown, hb⟩)
      go_ret
      exact ⟨rfl, hb⟩
    · go_enter Try.func29, Try.ntmps29
      go_wp2_with fail
      refine (rsums_ok A n c k l _ HL.out HRD.out hn hk).mono ?_
      rintro e w1 ⟨A', c', rfl, hown, hb⟩
      have hsl : (sumsL l k).length = k := tab_length _ _
      rw [hsl] at hown ⊢
      have HO := Lib.hid hown
      have HB := Lib.hid hb
      clear hown hb hsl
      go_wp2_with fail
      go_loopw [7] (fun j wr => ∃ i : Nat, i ≤ k ∧ j = .int .i64 i ∧ Hid (∀ t, t < i → (sumsL l k).getD t 0 = 0) ∧ wr = w1) (fun j _ => k - (intOf j).toNat)
      case atStart => exact ⟨0, by omega, rfl, Lib.hid fun t ht => absurd ht (by omega), rfl⟩
      case round =>
        obtain ⟨i, hi, rfl, HZ, rfl⟩ := hrel
        by_cases hik : i < k
        · obtain ⟨g, rfl, _, _⟩ := HO.out.form (by omega)
          have cc := HO.out.cell hik
          have q1 : (0 : Int) ≤ (i : Int) := by omega
          have q2 : (i : Int) < (k : Int) := by omega
          by_cases hy : (sumsL l k).getD i 0 = 0
          · have HZ2 := Lib.hid (show ∀ t, t < i + 1 → (sumsL l k).getD t 0 = 0 from fun t ht => by
              by_cases e : t = i
              · rw [e]; exact hy
              · exact HZ.out t (by omega))
            have h0 := fne0 hy
            clear hy
            generalize (sumsL l k).getD i 0 = y at cc h0
            go_wp2
            go_roundw
            case rel => exact ⟨i + 1, by omega, by go_num, HZ2, trivial⟩
            case measure => simp only [intOf]; omega
          · have hbf : rightB l (k : Int) = false := by
              rw [Bool.eq_false_iff]
              intro h2
              exact hy (HN.out.1 (HI.out.1 h2).2 i hik)
            have HBF := Lib.hid hbf.symm
            have h0 := fne0' hy
            clear hy hbf
            generalize (sumsL l k).getD i 0 = y at cc h0
            go_wp2
            go_ret
            exact ⟨ebool HBF.out, HB.out⟩
        · obtain rfl : k = i := by omega
          have hbt : rightB l (k : Int) = true := HI.out.2 ⟨by rw [HL.out]; omega, HN.out.2 HZ.out⟩
          have HBT := Lib.hid hbt.symm
          clear hbt
          go_wp2
          go_ret
          exact ⟨ebool HBT.out, HB.out⟩
end Go.Proofs.Ytbahelhhkmonmaa
