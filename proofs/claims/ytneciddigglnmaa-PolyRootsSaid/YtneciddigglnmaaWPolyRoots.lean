/- The walk of the statement PolyRoots: how many symbols a polynomial is 0 at. -/
import Derived.Test.YtneciddigglnmaaPl2
import Derived.Test.YtneciddigglnmaaTk
namespace Go.Proofs.Ytneciddigglnmaa
open Go.RowKit

theorem anyk_take (l : List F) (x : F) {i : Nat} (hi : i < l.length) : ((l.take i).any (fun a => a == x) || (l.getD i 0 == x)) = (l.take (i + 1)).any (fun a => a == x) := by
  rw [List.take_succ_eq_append_getElem hi, List.any_append, List.getD, List.getElem?_eq_getElem hi]
  simp
/-- The zeros of p among the first i of l, each once. -/
def rts (p l : List F) : Nat → List F
  | 0 => []
  | i + 1 => if pv p (l.getD i 0) = 0 ∧ (l.take i).any (fun a => a == l.getD i 0) = false then rts p l i ++ [l.getD i 0] else rts p l i
theorem rts_spec (p l : List F) : ∀ i, i ≤ l.length → (rts p l i).Nodup ∧ ∀ x ∈ rts p l i, pv p x = 0 ∧ x ∈ l.take i := by
  intro i
  induction i with
  | zero => intro _; exact ⟨List.nodup_nil, fun x hx => by simp [rts] at hx⟩
  | succ i ih =>
    intro hi
    obtain ⟨h1, h2⟩ := ih (by omega)
    have hsub : ∀ x, x ∈ l.take i → x ∈ l.take (i + 1) := fun x hx => by
      rw [List.take_succ_eq_append_getElem (by omega)]; exact List.mem_append_left _ hx
    rw [rts]
    split
    · rename_i hc
      refine ⟨?_, fun x hx => ?_⟩
      · rw [List.nodup_append]
        refine ⟨h1, by simp, fun a ha b hb e => ?_⟩
        rw [List.mem_singleton] at hb
        subst hb; subst e
        have h3 := (h2 _ ha).2
        have h4 := hc.2
        rw [List.any_eq_false] at h4
        exact h4 _ h3 (by simp)
      · rw [List.mem_append, List.mem_singleton] at hx
        rcases hx with hx | hx
        · exact ⟨(h2 x hx).1, hsub x (h2 x hx).2⟩
        · subst hx
          refine ⟨hc.1, ?_⟩
          rw [List.take_succ_eq_append_getElem (by omega), List.mem_append]
          right
          rw [List.getD, List.getElem?_eq_getElem (by omega)]
          simp
    · exact ⟨h1, fun x hx => ⟨(h2 x hx).1, hsub x (h2 x hx).2⟩⟩
theorem rts_few (p l : List F) (hp : p.length ≤ 60000) (h : 0 < (shortL p).length) : (rts p l l.length).length < (shortL p).length := by
  obtain ⟨h1, h2⟩ := rts_spec p l l.length (Nat.le_refl _)
  exact roots_few _ (shortL p) h1 (fun x hx => by rw [pv_short]; exact (h2 x hx).1) (short_value hp h)
theorem rts_yes {p l : List F} {i : Nat} (h : pv p (l.getD i 0) = 0) (h2 : (l.take i).any (fun a => a == l.getD i 0) = false) : (rts p l (i + 1)).length = (rts p l i).length + 1 := by
  rw [rts, if_pos ⟨h, h2⟩, List.length_append]; rfl
theorem rts_no {p l : List F} {i : Nat} (h : pv p (l.getD i 0) ≠ 0 ∨ (l.take i).any (fun a => a == l.getD i 0) = true) : (rts p l (i + 1)).length = (rts p l i).length := by
  rw [rts, if_neg (fun hc => by rcases h with h | h; exact h hc.1; rw [hc.2] at h; exact absurd h (by simp))]
theorem rts_le (p l : List F) (i : Nat) : (rts p l i).length ≤ i := by
  induction i with
  | zero => exact Nat.le_refl _
  | succ i ih =>
    rw [rts]
    split
    · rw [List.length_append, List.length_singleton]; omega
    · omega
theorem root_z (y : F) : 0 < (shortL [y, 1]).length := by rw [root_shortL]; simp

set_option maxRecDepth 100000 in
set_option maxHeartbeats 8000000 in
theorem roots_walk (A1 A2 : Option Addr) (n1 n2 c1 c2 : Nat) (l1 l2 : List F) (w : World) (h1 : l1.length = n1) (h2 : l2.length = n2) (hr1 : Rd w w.heap.size A1 l1) (hr2 : Rd w w.heap.size A2 l2) (hc1 : n1 ≤ c1) (_hm1 : n1 ≤ 9223372036854775807) (_hm2 : n2 ≤ 9223372036854775807) :
    Calls Try.prog 3 #[.slice A1 n1 c1, .slice A2 n2 c2] w fun e w' => e = .returned (.bool true) ∧ Below w.heap.size w w' := by
  have H1 := Lib.hid h1
  have H2 := Lib.hid h2
  have R1 := Lib.hid hr1
  have R2 := Lib.hid hr2
  clear h1 h2 hr1 hr2
  go_enter Try.func3, Try.ntmps3
  go_wp2_with (first
    | (go_at_call 10; refine (awake_any _).mono ?_; rintro e w' ⟨rfl, hbn⟩; (first | (replace hbw := bstep hbw (Nat.le_refl _) hbn; clear hbn) | (have hbw := hbn; clear hbn))))
  all_goals first | (go_ret; exact ⟨rfl, hbw⟩) | skip
  have HB := Lib.hid hbw
  replace R1 := Lib.hid (R1.out.step0 hbw)
  replace R2 := Lib.hid (R2.out.step0 hbw)
  clear hbw
  have m1 : n1 ≤ 60 := by omega
  have m2 : n2 ≤ 200 := by omega
  refine (short_any A1 n1 c1 l1 _ H1.out (by exact R1.out) (by omega) hc1).mono ?_
  rintro e w1 ⟨As, cs, rfl, hm, hb⟩
  replace HB := Lib.hid (bstep HB.out (Nat.le_refl _) hb)
  replace R1 := Lib.hid (R1.out.step0 hb)
  replace R2 := Lib.hid (R2.out.step0 hb)
  have HF := Lib.hid (rts_few l1 l2 (by rw [H1.out]; omega))
  clear hm hb
  generalize (shortL l1).length = ns at HF ⊢
  by_cases hz : ns = 0
  · subst hz
    go_wp2_with fail
    go_ret
    exact ⟨rfl, HB.out⟩
  have t0 : ((ns : Int) == 0) = false := by rw [beq_eq_false_iff_ne]; omega
  have hnp : 0 < ns := by omega
  clear hz
  go_wp2_with fail
  go_loopw [6, 7] (fun v j wr => ∃ i : Nat, i ≤ n2 ∧ j = .int .i64 i ∧ v = .int .i64 ((rts l1 l2 i).length : Nat) ∧ Below w1.heap.size w1 wr) (fun _ j _ => n2 - (intOf j).toNat)
  case atStart => exact ⟨0, by omega, rfl, rfl, Below.refl _ _⟩
  case round =>
    obtain ⟨i, hi, rfl, rfl, hb⟩ := hrel
    by_cases hin : i < n2
    · have hrl := rts_le l1 l2 i
      have HYES := Lib.hid (rts_yes (p := l1) (l := l2) (i := i))
      have HNO := Lib.hid (rts_no (p := l1) (l := l2) (i := i))
      have HC := Lib.hid (R2.out (by rw [H2.out]; omega))
      obtain ⟨b2, o2, hA2, hlt2, hc2'⟩ := HC.out
      subst hA2
      have HC2 := Lib.hid hc2'
      clear hc2'
      obtain ⟨y, hy⟩ : ∃ y, l2.getD i 0 = y := ⟨_, rfl⟩
      have HY := Lib.hid hy
      rw [hy] at HYES HNO
      obtain ⟨cnt, hcnt⟩ : ∃ c, (rts l1 l2 i).length = c := ⟨_, rfl⟩
      have HCNT := Lib.hid hcnt
      rw [hcnt] at hrl HYES HNO ⊢
      clear hy hcnt
      have q1 : (0 : Int) ≤ (i : Int) := by omega
      have q2 : (i : Int) < (n2 : Int) := by omega
      have HB1 := Lib.hid hb
      clear hb
      go_wp2_with fail
      go_loopw [8, 9] (fun tw j wr2 => ∃ k : Nat, k ≤ i ∧ j = .int .i64 k ∧ tw = .bool ((l2.take k).any (fun a => a == y)) ∧ Below w1.heap.size w1 wr2) (fun _ j _ => i - (intOf j).toNat)
      case atStart => exact ⟨0, by omega, rfl, rfl, HB1.out⟩
      case round =>
        obtain ⟨k, hk, rfl, rfl, hbi⟩ := hrel
        by_cases hki : k < i
        · have ck := (hbi.cell (p := ⟨b2, o2 + k, none⟩) hlt2).trans (HC2.out k (by rw [H2.out]; omega))
          have ci := (hbi.cell (p := ⟨b2, o2 + i, none⟩) hlt2).trans (HC2.out i (by rw [H2.out]; omega))
          rw [HY.out] at ci
          have HA := Lib.hid (anyk_take l2 y (i := k) (by rw [H2.out]; omega))
          generalize (l2.take k).any (fun a => a == y) = tw at HA
          generalize l2.getD k 0 = z at ck HA
          have q3 : (0 : Int) ≤ (k : Int) := by omega
          have q4 : (k : Int) < (n2 : Int) := by omega
          cases tw with
          | true =>
            have e2 := HA.out
            rw [Bool.true_or] at e2
            have HE := Lib.hid e2
            clear e2
            go_wp2
            go_quiet (fail)
            go_wp2
            go_roundw
            case rel => exact ⟨k + 1, by omega, by go_num, by rw [← HE.out], below_drewN hbi _⟩
            case measure => simp only [intOf]; omega
          | false =>
            by_cases hzy : z = y
            · have e2 := HA.out
              rw [Bool.false_or, beq_iff_eq.2 hzy] at e2
              have hq := feq hzy
              have HE := Lib.hid e2
              clear hzy e2
              go_wp2
              go_quiet (fail)
              go_wp2
              go_roundw
              case rel => exact ⟨k + 1, by omega, by go_num, by rw [← HE.out], below_drewN hbi _⟩
              case measure => simp only [intOf]; omega
            · have e2 := HA.out
              rw [Bool.false_or, beq_eq_false_iff_ne.2 hzy] at e2
              have hq := feq' hzy
              have HE := Lib.hid e2
              clear hzy e2
              go_wp2
              go_quiet (fail)
              go_wp2
              go_roundw
              case rel => exact ⟨k + 1, by omega, by go_num, by rw [← HE.out], below_drewN hbi _⟩
              case measure => simp only [intOf]; omega
        · obtain rfl : k = i := by omega
          generalize (l2.take k).any (fun a => a == y) = tw at HYES HNO ⊢
          have ci := (hbi.cell (p := ⟨b2, o2 + k, none⟩) hlt2).trans (HC2.out k (by rw [H2.out]; omega))
          rw [HY.out] at ci
          have R1B := Lib.hid ((R1.out.below hbi).more hbi.size)
          go_wp2_with fail
          refine (at_any A1 n1 c1 l1 y _ H1.out (by omega) (by exact R1B.out)).mono ?_
          rintro e w7 ⟨rfl, hb7⟩
          obtain ⟨v, hv⟩ : ∃ v, pv l1 y = v := ⟨_, rfl⟩
          rw [hv] at HYES HNO ⊢
          have HV := Lib.hid hv
          have hb72 := bstep hbi (Nat.le_refl _) hb7
          have ci7 := (hb72.cell (p := ⟨b2, o2 + k, none⟩) hlt2).trans (HC2.out k (by rw [H2.out]; omega))
          rw [HY.out] at ci7
          have R17 := Lib.hid ((R1.out.below hb72).more hb72.size)
          have HB7 := Lib.hid hb72
          clear hv ci hb7 hb72 hbi R1B
          by_cases hv0 : v = 0
          · have hz1 := feq0 hv0
            have hn0 : v.nat = 0 := by rw [hv0]; rfl
            have HV0 := Lib.hid hv0
            cases tw with
            | false =>
              have HL := Lib.hid (HYES.out hv0 rfl)
              clear hv0
              go_wp2_with fail
              refine (div_ok A1 _ n1 2 c1 2 l1 [y, 1] _ H1.out rfl (by exact R17.out.alloc _) (by exact lit2 w7 _ _ _ _ _ rfl rfl (by simp)) (by omega) (by omega) hc1 (by omega) (root_z y)).mono ?_
              rintro e w9 ⟨Aq, Ar, cq, cr, q, r, rfl, hm1, hm2, hb, hd⟩
              have hb9 := bstep (bstep HB7.out (Nat.le_refl _) (balloc w7 _)) (Nat.le_refl _) hb
              have HB9 := Lib.hid hb9
              have ci9 := (hb9.cell (p := ⟨b2, o2 + k, none⟩) hlt2).trans (HC2.out k (by rw [H2.out]; omega))
              rw [HY.out] at ci9
              have R19 := Lib.hid ((R1.out.below hb9).more hb9.size)
              rcases div_root hd with ⟨hr0, _⟩ | ⟨hne, _⟩
              · subst hr0
                clear hm1 hm2 hb hd hb9 ci7
                dsimp only [List.length_nil]
                go_wp2_with fail
                go_quiet (fail)
                go_wp2
                go_roundw
                case rel => exact ⟨k + 1, by omega, by go_num, by rw [HL.out]; rfl, below_drewN HB9.out _⟩
                case measure => simp only [intOf]; omega
              · exact absurd (HV.out.trans HV0.out) hne
            | true =>
              have HL := Lib.hid (HNO.out (.inr rfl))
              clear hv0
              go_wp2_with fail
              refine (div_ok A1 _ n1 2 c1 2 l1 [y, 1] _ H1.out rfl (by exact R17.out.alloc _) (by exact lit2 w7 _ _ _ _ _ rfl rfl (by simp)) (by omega) (by omega) hc1 (by omega) (root_z y)).mono ?_
              rintro e w9 ⟨Aq, Ar, cq, cr, q, r, rfl, hm1, hm2, hb, hd⟩
              have hb9 := bstep (bstep HB7.out (Nat.le_refl _) (balloc w7 _)) (Nat.le_refl _) hb
              have HB9 := Lib.hid hb9
              have ci9 := (hb9.cell (p := ⟨b2, o2 + k, none⟩) hlt2).trans (HC2.out k (by rw [H2.out]; omega))
              rw [HY.out] at ci9
              have R19 := Lib.hid ((R1.out.below hb9).more hb9.size)
              rcases div_root hd with ⟨hr0, _⟩ | ⟨hne, _⟩
              · subst hr0
                clear hm1 hm2 hb hd hb9 ci7
                dsimp only [List.length_nil]
                go_wp2_with fail
                go_quiet (fail)
                go_wp2
                go_roundw
                case rel => exact ⟨k + 1, by omega, by go_num, by rw [HL.out], below_drewN HB9.out _⟩
                case measure => simp only [intOf]; omega
              · exact absurd (HV.out.trans HV0.out) hne
          · have hz1 := feq0' hv0
            have hn0 : ¬ v.nat = 0 := fun h => hv0 (F.nat_eq_zero.1 h)
            have HV0 := Lib.hid hv0
            have HL := Lib.hid (HNO.out (.inl hv0))
            clear hv0
            go_wp2_with fail
            refine (div_ok A1 _ n1 2 c1 2 l1 [y, 1] _ H1.out rfl (by exact R17.out.alloc _) (by exact lit2 w7 _ _ _ _ _ rfl rfl (by simp)) (by omega) (by omega) hc1 (by omega) (root_z y)).mono ?_
            rintro e w9 ⟨Aq, Ar, cq, cr, q, r, rfl, hm1, hm2, hb, hd⟩
            have hb9 := bstep (bstep HB7.out (Nat.le_refl _) (balloc w7 _)) (Nat.le_refl _) hb
            have HB9 := Lib.hid hb9
            have ci9 := (hb9.cell (p := ⟨b2, o2 + k, none⟩) hlt2).trans (HC2.out k (by rw [H2.out]; omega))
            rw [HY.out] at ci9
            have R19 := Lib.hid ((R1.out.below hb9).more hb9.size)
            rcases div_root hd with ⟨_, hy0⟩ | ⟨hne, hr1⟩
            · exact absurd (HV.out.symm.trans hy0) HV0.out
            · rw [HV.out] at hr1
              subst hr1
              have hl9 : b2 < w9.heap.size := Nat.lt_of_lt_of_le hlt2 hb9.size
              obtain ⟨gr, hAr, hgr1, hgr⟩ := hm2.form (by simp)
              subst hAr
              have cr' := hm2.cell (j := 0) (by simp)
              have e0 : [v].getD 0 0 = v := rfl
              rw [e0] at cr'
              clear hm1 hm2 hb hd hb9 ci7 e0
              dsimp only [List.length_cons, List.length_nil]
              cases tw with
              | false =>
                go_wp2_with fail
                refine wp_region_held_drew (S := fun w' => Below w9.heap.size w9 w') (by kernel_rfl) (Below.refl _ _).drew (fun hHeld => ?_)
                refine take_in (v := ?_) 80 0 rfl rfl (by kernel_rfl) (by kernel_rfl) (by kernel_rfl) (fun _ _ _ h => h) (by rfl) ?_ (by assumption) ?_
                rotate_left 1
                · (intro w hSw; go_simp; (try with_reducible rfl))
                (try simp only [List.setIfInBounds_toArray, List.set_cons_zero, List.set_cons_succ])
                refine take_in (v := ?_) 81 1 rfl rfl (by kernel_rfl) (by kernel_rfl) (by kernel_rfl) (fun _ _ _ h => h) (by rfl) ?_ (by assumption) ?_
                rotate_left 1
                · (intro w hSw; go_simp; (try with_reducible rfl))
                (try simp only [List.setIfInBounds_toArray, List.set_cons_zero, List.set_cons_succ])
                refine take_in (v := ?_) 82 2 rfl rfl (by kernel_rfl) (by kernel_rfl) (by kernel_rfl) (fun _ _ _ h => h) (by rfl) ?_ (by assumption) ?_
                rotate_left 1
                · (intro w hSw; go_simp; (try with_reducible rfl))
                (try simp only [List.setIfInBounds_toArray, List.set_cons_zero, List.set_cons_succ])
                refine take_in (v := ?_) 83 3 rfl rfl (by kernel_rfl) (by kernel_rfl) (by kernel_rfl) (fun _ _ _ h => h) (by rfl) ?_ (by assumption) ?_
                rotate_left 1
                · (intro w hSw; go_simp; (try with_reducible rfl))
                (try simp only [List.setIfInBounds_toArray, List.set_cons_zero, List.set_cons_succ])
                refine take_in (v := ?_) 84 4 rfl rfl (by kernel_rfl) (by kernel_rfl) (by kernel_rfl) (fun _ _ _ h => h) (by rfl) ?_ (by assumption) ?_
                rotate_left 1
                · (intro w hSw; go_simp; (try with_reducible rfl))
                (try simp only [List.setIfInBounds_toArray, List.set_cons_zero, List.set_cons_succ])
                refine take_in (v := ?_) 85 5 rfl rfl (by kernel_rfl) (by kernel_rfl) (by kernel_rfl) (fun _ _ _ h => h) (by rfl) ?_ (by assumption) ?_
                rotate_left 1
                · (intro w hSw; go_simp; (try with_reducible rfl))
                (try simp only [List.setIfInBounds_toArray, List.set_cons_zero, List.set_cons_succ])
                refine take_in (v := ?_) 86 6 rfl rfl (by kernel_rfl) (by kernel_rfl) (by kernel_rfl) (fun _ _ _ h => h) (by rfl) ?_ (by assumption) ?_
                rotate_left 1
                · (intro w hSw; go_simp; (try with_reducible rfl))
                (try simp only [List.setIfInBounds_toArray, List.set_cons_zero, List.set_cons_succ])
                refine take_in (v := ?_) 87 7 rfl rfl (by kernel_rfl) (by kernel_rfl) (by kernel_rfl) (fun _ _ _ h => h) (by rfl) ?_ (by assumption) ?_
                rotate_left 1
                · (intro w hSw; go_simp; (try with_reducible rfl))
                (try simp only [List.setIfInBounds_toArray, List.set_cons_zero, List.set_cons_succ])
                refine take_in (v := ?_) 88 8 rfl rfl (by kernel_rfl) (by kernel_rfl) (by kernel_rfl) (fun _ _ _ h => h) (by rfl) ?_ (by assumption) ?_
                rotate_left 1
                · (intro w hSw; go_simp; (try with_reducible rfl))
                (try simp only [List.setIfInBounds_toArray, List.set_cons_zero, List.set_cons_succ])
                refine take_in (v := ?_) 89 9 rfl rfl (by kernel_rfl) (by kernel_rfl) (by kernel_rfl) (fun _ _ _ h => h) (by rfl) ?_ (by assumption) ?_
                rotate_left 1
                · (intro w hSw; go_simp; (try with_reducible rfl))
                (try simp only [List.setIfInBounds_toArray, List.set_cons_zero, List.set_cons_succ])
                refine take_in (v := ?_) 90 10 rfl rfl (by kernel_rfl) (by kernel_rfl) (by kernel_rfl) (fun _ _ _ h => h) (by rfl) ?_ (by assumption) ?_
                rotate_left 1
                · (intro w hSw; go_simp; (try with_reducible rfl))
                (try simp only [List.setIfInBounds_toArray, List.set_cons_zero, List.set_cons_succ])
                refine take_in (v := ?_) 91 11 rfl rfl (by kernel_rfl) (by kernel_rfl) (by kernel_rfl) (fun _ _ _ h => h) (by rfl) ?_ (by assumption) ?_
                rotate_left 1
                · (intro w hSw; go_simp; (try with_reducible rfl))
                (try simp only [List.setIfInBounds_toArray, List.set_cons_zero, List.set_cons_succ])
                refine take_in (v := ?_) 92 12 rfl rfl (by kernel_rfl) (by kernel_rfl) (by kernel_rfl) (fun _ _ _ h => h) (by rfl) ?_ (by assumption) ?_
                rotate_left 1
                · (intro w hSw; go_simp; (try with_reducible rfl))
                (try simp only [List.setIfInBounds_toArray, List.set_cons_zero, List.set_cons_succ])
                refine take_in (v := ?_) 93 13 rfl rfl (by kernel_rfl) (by kernel_rfl) (by kernel_rfl) (fun _ _ _ h => h) (by rfl) ?_ (by assumption) ?_
                rotate_left 1
                · (intro w hSw; go_simp; (try with_reducible rfl))
                (try simp only [List.setIfInBounds_toArray, List.set_cons_zero, List.set_cons_succ])
                refine take_in (v := ?_) 94 14 rfl rfl (by kernel_rfl) (by kernel_rfl) (by kernel_rfl) (fun _ _ _ h => h) (by rfl) ?_ (by assumption) ?_
                rotate_left 1
                · (intro w hSw; go_simp; (try with_reducible rfl))
                (try simp only [List.setIfInBounds_toArray, List.set_cons_zero, List.set_cons_succ])
                refine take_in (v := ?_) 95 15 rfl rfl (by kernel_rfl) (by kernel_rfl) (by kernel_rfl) (fun _ _ _ h => h) (by rfl) ?_ (by assumption) ?_
                rotate_left 1
                · (intro w hSw; go_simp; (try with_reducible rfl))
                (try simp only [List.setIfInBounds_toArray, List.set_cons_zero, List.set_cons_succ])
                refine take_in (v := ?_) 96 16 rfl rfl (by kernel_rfl) (by kernel_rfl) (by kernel_rfl) (fun _ _ _ h => h) (by rfl) ?_ (by assumption) ?_
                rotate_left 1
                · (intro w hSw; go_simp; (try with_reducible rfl))
                (try simp only [List.setIfInBounds_toArray, List.set_cons_zero, List.set_cons_succ])
                refine take_in (v := ?_) 97 17 rfl rfl (by kernel_rfl) (by kernel_rfl) (by kernel_rfl) (fun _ _ _ h => h) (by rfl) ?_ (by assumption) ?_
                rotate_left 1
                · (intro w hSw; go_simp; (try with_reducible rfl))
                (try simp only [List.setIfInBounds_toArray, List.set_cons_zero, List.set_cons_succ])
                refine take_in (v := ?_) 98 18 rfl rfl (by kernel_rfl) (by kernel_rfl) (by kernel_rfl) (fun _ _ _ h => h) (by rfl) ?_ (by assumption) ?_
                rotate_left 1
                · (intro w hSw; go_simp; (try with_reducible rfl))
                (try simp only [List.setIfInBounds_toArray, List.set_cons_zero, List.set_cons_succ])
                refine take_in (v := ?_) 99 19 rfl rfl (by kernel_rfl) (by kernel_rfl) (by kernel_rfl) (fun _ _ _ h => h) (by rfl) ?_ (by assumption) ?_
                rotate_left 1
                · (intro w hSw; have z1 := (Below.cell hSw (p := ⟨b2, o2 + k, none⟩) hl9).trans ci9; have z2 := (Below.cell hSw (p := ⟨gr, 0, none⟩) hgr).trans cr'; go_simp; (try with_reducible rfl))
                (try simp only [List.setIfInBounds_toArray, List.set_cons_zero, List.set_cons_succ])
                refine take_in (v := ?_) 100 20 rfl rfl (by kernel_rfl) (by kernel_rfl) (by kernel_rfl) (fun _ _ _ h => h) (by rfl) ?_ (by assumption) ?_
                rotate_left 1
                · (intro w hSw; go_simp; (try with_reducible rfl))
                (try simp only [List.setIfInBounds_toArray, List.set_cons_zero, List.set_cons_succ])
                refine take_in (v := ?_) 101 21 rfl rfl (by kernel_rfl) (by kernel_rfl) (by kernel_rfl) (fun _ _ _ h => h) (by rfl) ?_ (by assumption) ?_
                rotate_left 1
                · (intro w hSw; go_simp; (try with_reducible rfl))
                (try simp only [List.setIfInBounds_toArray, List.set_cons_zero, List.set_cons_succ])
                refine take_in (v := ?_) 102 22 rfl rfl (by kernel_rfl) (by kernel_rfl) (by kernel_rfl) (fun _ _ _ h => h) (by rfl) ?_ (by assumption) ?_
                rotate_left 1
                · (intro w hSw; go_simp; (try with_reducible rfl))
                (try simp only [List.setIfInBounds_toArray, List.set_cons_zero, List.set_cons_succ])
                refine take_in (v := ?_) 103 23 rfl rfl (by kernel_rfl) (by kernel_rfl) (by kernel_rfl) (fun _ _ _ h => h) (by rfl) ?_ (by assumption) ?_
                rotate_left 1
                · (intro w hSw; go_simp; (try with_reducible rfl))
                (try simp only [List.setIfInBounds_toArray, List.set_cons_zero, List.set_cons_succ])
                refine take_in (v := ?_) 104 24 rfl rfl (by kernel_rfl) (by kernel_rfl) (by kernel_rfl) (fun _ _ _ h => h) (by rfl) ?_ (by assumption) ?_
                rotate_left 1
                · (intro w hSw; have z1 := (Below.cell hSw (p := ⟨b2, o2 + k, none⟩) hl9).trans ci9; have z2 := (Below.cell hSw (p := ⟨gr, 0, none⟩) hgr).trans cr'; go_simp; (try with_reducible rfl))
                (try simp only [List.setIfInBounds_toArray, List.set_cons_zero, List.set_cons_succ])
                refine wpAnyH_ready (rs := [25]) (by kernel_rfl) (by simp) ?_
                refine AllReadyH.cons rfl (fun K hK => ?_) AllReadyH.nil
                go_simp
                refine (at_any A1 n1 c1 l1 y _ H1.out (by omega) (by exact ((R19.out.below hHeld).more hHeld.size))).mono ?_
                rintro e wC ⟨rfl, hbC⟩
                rw [HV.out]
                go_wp2_with fail
                refine hK.out _ _ (bstep hHeld (Nat.le_refl _) (by assumption)) (fun hHeld => ?_)
                clear hK K
                (try simp only [List.setIfInBounds_toArray, List.set_cons_zero, List.set_cons_succ])
                refine take_in (v := ?_) 106 26 rfl rfl (by kernel_rfl) (by kernel_rfl) (by kernel_rfl) (fun _ _ _ h => h) (by rfl) ?_ (by assumption) ?_
                rotate_left 1
                · (intro w hSw; go_simp; (try with_reducible rfl))
                (try simp only [List.setIfInBounds_toArray, List.set_cons_zero, List.set_cons_succ])
                refine take_in (v := ?_) 107 27 rfl rfl (by kernel_rfl) (by kernel_rfl) (by kernel_rfl) (fun _ _ _ h => h) (by rfl) ?_ (by assumption) ?_
                rotate_left 1
                · (intro w hSw; go_simp; (try with_reducible rfl))
                (try simp only [List.setIfInBounds_toArray, List.set_cons_zero, List.set_cons_succ])
                refine take_in (v := ?_) 108 28 rfl rfl (by kernel_rfl) (by kernel_rfl) (by kernel_rfl) (fun _ _ _ h => h) (by rfl) ?_ (by assumption) ?_
                rotate_left 1
                · (intro w hSw; go_simp; (try with_reducible rfl))
                (try simp only [List.setIfInBounds_toArray, List.set_cons_zero, List.set_cons_succ])
                refine take_in (v := ?_) 109 29 rfl rfl (by kernel_rfl) (by kernel_rfl) (by kernel_rfl) (fun _ _ _ h => h) (by rfl) ?_ (by assumption) ?_
                rotate_left 1
                · (intro w hSw; go_simp; (try with_reducible rfl))
                (try simp only [List.setIfInBounds_toArray, List.set_cons_zero, List.set_cons_succ])
                refine wpAnyH_done (by kernel_rfl) ?_ _
                go_wp2
                go_roundw
                case rel => exact ⟨k + 1, by omega, by go_num, by rw [HL.out], bstep HB9.out (Nat.le_refl _) hHeld⟩
                case measure => simp only [intOf]; omega
              | true =>
                go_wp2_with fail
                refine wp_region_held_drew (S := fun w' => Below w9.heap.size w9 w') (by kernel_rfl) (Below.refl _ _).drew (fun hHeld => ?_)
                refine take_in (v := ?_) 80 0 rfl rfl (by kernel_rfl) (by kernel_rfl) (by kernel_rfl) (fun _ _ _ h => h) (by rfl) ?_ (by assumption) ?_
                rotate_left 1
                · (intro w hSw; go_simp; (try with_reducible rfl))
                (try simp only [List.setIfInBounds_toArray, List.set_cons_zero, List.set_cons_succ])
                refine take_in (v := ?_) 81 1 rfl rfl (by kernel_rfl) (by kernel_rfl) (by kernel_rfl) (fun _ _ _ h => h) (by rfl) ?_ (by assumption) ?_
                rotate_left 1
                · (intro w hSw; go_simp; (try with_reducible rfl))
                (try simp only [List.setIfInBounds_toArray, List.set_cons_zero, List.set_cons_succ])
                refine take_in (v := ?_) 82 2 rfl rfl (by kernel_rfl) (by kernel_rfl) (by kernel_rfl) (fun _ _ _ h => h) (by rfl) ?_ (by assumption) ?_
                rotate_left 1
                · (intro w hSw; go_simp; (try with_reducible rfl))
                (try simp only [List.setIfInBounds_toArray, List.set_cons_zero, List.set_cons_succ])
                refine take_in (v := ?_) 83 3 rfl rfl (by kernel_rfl) (by kernel_rfl) (by kernel_rfl) (fun _ _ _ h => h) (by rfl) ?_ (by assumption) ?_
                rotate_left 1
                · (intro w hSw; go_simp; (try with_reducible rfl))
                (try simp only [List.setIfInBounds_toArray, List.set_cons_zero, List.set_cons_succ])
                refine take_in (v := ?_) 84 4 rfl rfl (by kernel_rfl) (by kernel_rfl) (by kernel_rfl) (fun _ _ _ h => h) (by rfl) ?_ (by assumption) ?_
                rotate_left 1
                · (intro w hSw; go_simp; (try with_reducible rfl))
                (try simp only [List.setIfInBounds_toArray, List.set_cons_zero, List.set_cons_succ])
                refine take_in (v := ?_) 85 5 rfl rfl (by kernel_rfl) (by kernel_rfl) (by kernel_rfl) (fun _ _ _ h => h) (by rfl) ?_ (by assumption) ?_
                rotate_left 1
                · (intro w hSw; go_simp; (try with_reducible rfl))
                (try simp only [List.setIfInBounds_toArray, List.set_cons_zero, List.set_cons_succ])
                refine take_in (v := ?_) 86 6 rfl rfl (by kernel_rfl) (by kernel_rfl) (by kernel_rfl) (fun _ _ _ h => h) (by rfl) ?_ (by assumption) ?_
                rotate_left 1
                · (intro w hSw; go_simp; (try with_reducible rfl))
                (try simp only [List.setIfInBounds_toArray, List.set_cons_zero, List.set_cons_succ])
                refine take_in (v := ?_) 87 7 rfl rfl (by kernel_rfl) (by kernel_rfl) (by kernel_rfl) (fun _ _ _ h => h) (by rfl) ?_ (by assumption) ?_
                rotate_left 1
                · (intro w hSw; go_simp; (try with_reducible rfl))
                (try simp only [List.setIfInBounds_toArray, List.set_cons_zero, List.set_cons_succ])
                refine take_in (v := ?_) 88 8 rfl rfl (by kernel_rfl) (by kernel_rfl) (by kernel_rfl) (fun _ _ _ h => h) (by rfl) ?_ (by assumption) ?_
                rotate_left 1
                · (intro w hSw; go_simp; (try with_reducible rfl))
                (try simp only [List.setIfInBounds_toArray, List.set_cons_zero, List.set_cons_succ])
                refine take_in (v := ?_) 89 9 rfl rfl (by kernel_rfl) (by kernel_rfl) (by kernel_rfl) (fun _ _ _ h => h) (by rfl) ?_ (by assumption) ?_
                rotate_left 1
                · (intro w hSw; go_simp; (try with_reducible rfl))
                (try simp only [List.setIfInBounds_toArray, List.set_cons_zero, List.set_cons_succ])
                refine take_in (v := ?_) 90 10 rfl rfl (by kernel_rfl) (by kernel_rfl) (by kernel_rfl) (fun _ _ _ h => h) (by rfl) ?_ (by assumption) ?_
                rotate_left 1
                · (intro w hSw; go_simp; (try with_reducible rfl))
                (try simp only [List.setIfInBounds_toArray, List.set_cons_zero, List.set_cons_succ])
                refine take_in (v := ?_) 91 11 rfl rfl (by kernel_rfl) (by kernel_rfl) (by kernel_rfl) (fun _ _ _ h => h) (by rfl) ?_ (by assumption) ?_
                rotate_left 1
                · (intro w hSw; go_simp; (try with_reducible rfl))
                (try simp only [List.setIfInBounds_toArray, List.set_cons_zero, List.set_cons_succ])
                refine take_in (v := ?_) 92 12 rfl rfl (by kernel_rfl) (by kernel_rfl) (by kernel_rfl) (fun _ _ _ h => h) (by rfl) ?_ (by assumption) ?_
                rotate_left 1
                · (intro w hSw; go_simp; (try with_reducible rfl))
                (try simp only [List.setIfInBounds_toArray, List.set_cons_zero, List.set_cons_succ])
                refine take_in (v := ?_) 93 13 rfl rfl (by kernel_rfl) (by kernel_rfl) (by kernel_rfl) (fun _ _ _ h => h) (by rfl) ?_ (by assumption) ?_
                rotate_left 1
                · (intro w hSw; go_simp; (try with_reducible rfl))
                (try simp only [List.setIfInBounds_toArray, List.set_cons_zero, List.set_cons_succ])
                refine take_in (v := ?_) 94 14 rfl rfl (by kernel_rfl) (by kernel_rfl) (by kernel_rfl) (fun _ _ _ h => h) (by rfl) ?_ (by assumption) ?_
                rotate_left 1
                · (intro w hSw; go_simp; (try with_reducible rfl))
                (try simp only [List.setIfInBounds_toArray, List.set_cons_zero, List.set_cons_succ])
                refine take_in (v := ?_) 95 15 rfl rfl (by kernel_rfl) (by kernel_rfl) (by kernel_rfl) (fun _ _ _ h => h) (by rfl) ?_ (by assumption) ?_
                rotate_left 1
                · (intro w hSw; go_simp; (try with_reducible rfl))
                (try simp only [List.setIfInBounds_toArray, List.set_cons_zero, List.set_cons_succ])
                refine take_in (v := ?_) 96 16 rfl rfl (by kernel_rfl) (by kernel_rfl) (by kernel_rfl) (fun _ _ _ h => h) (by rfl) ?_ (by assumption) ?_
                rotate_left 1
                · (intro w hSw; go_simp; (try with_reducible rfl))
                (try simp only [List.setIfInBounds_toArray, List.set_cons_zero, List.set_cons_succ])
                refine take_in (v := ?_) 97 17 rfl rfl (by kernel_rfl) (by kernel_rfl) (by kernel_rfl) (fun _ _ _ h => h) (by rfl) ?_ (by assumption) ?_
                rotate_left 1
                · (intro w hSw; go_simp; (try with_reducible rfl))
                (try simp only [List.setIfInBounds_toArray, List.set_cons_zero, List.set_cons_succ])
                refine take_in (v := ?_) 98 18 rfl rfl (by kernel_rfl) (by kernel_rfl) (by kernel_rfl) (fun _ _ _ h => h) (by rfl) ?_ (by assumption) ?_
                rotate_left 1
                · (intro w hSw; go_simp; (try with_reducible rfl))
                (try simp only [List.setIfInBounds_toArray, List.set_cons_zero, List.set_cons_succ])
                refine take_in (v := ?_) 99 19 rfl rfl (by kernel_rfl) (by kernel_rfl) (by kernel_rfl) (fun _ _ _ h => h) (by rfl) ?_ (by assumption) ?_
                rotate_left 1
                · (intro w hSw; have z1 := (Below.cell hSw (p := ⟨b2, o2 + k, none⟩) hl9).trans ci9; have z2 := (Below.cell hSw (p := ⟨gr, 0, none⟩) hgr).trans cr'; go_simp; (try with_reducible rfl))
                (try simp only [List.setIfInBounds_toArray, List.set_cons_zero, List.set_cons_succ])
                refine take_in (v := ?_) 100 20 rfl rfl (by kernel_rfl) (by kernel_rfl) (by kernel_rfl) (fun _ _ _ h => h) (by rfl) ?_ (by assumption) ?_
                rotate_left 1
                · (intro w hSw; go_simp; (try with_reducible rfl))
                (try simp only [List.setIfInBounds_toArray, List.set_cons_zero, List.set_cons_succ])
                refine take_in (v := ?_) 101 21 rfl rfl (by kernel_rfl) (by kernel_rfl) (by kernel_rfl) (fun _ _ _ h => h) (by rfl) ?_ (by assumption) ?_
                rotate_left 1
                · (intro w hSw; go_simp; (try with_reducible rfl))
                (try simp only [List.setIfInBounds_toArray, List.set_cons_zero, List.set_cons_succ])
                refine take_in (v := ?_) 102 22 rfl rfl (by kernel_rfl) (by kernel_rfl) (by kernel_rfl) (fun _ _ _ h => h) (by rfl) ?_ (by assumption) ?_
                rotate_left 1
                · (intro w hSw; go_simp; (try with_reducible rfl))
                (try simp only [List.setIfInBounds_toArray, List.set_cons_zero, List.set_cons_succ])
                refine take_in (v := ?_) 103 23 rfl rfl (by kernel_rfl) (by kernel_rfl) (by kernel_rfl) (fun _ _ _ h => h) (by rfl) ?_ (by assumption) ?_
                rotate_left 1
                · (intro w hSw; go_simp; (try with_reducible rfl))
                (try simp only [List.setIfInBounds_toArray, List.set_cons_zero, List.set_cons_succ])
                refine take_in (v := ?_) 104 24 rfl rfl (by kernel_rfl) (by kernel_rfl) (by kernel_rfl) (fun _ _ _ h => h) (by rfl) ?_ (by assumption) ?_
                rotate_left 1
                · (intro w hSw; have z1 := (Below.cell hSw (p := ⟨b2, o2 + k, none⟩) hl9).trans ci9; have z2 := (Below.cell hSw (p := ⟨gr, 0, none⟩) hgr).trans cr'; go_simp; (try with_reducible rfl))
                (try simp only [List.setIfInBounds_toArray, List.set_cons_zero, List.set_cons_succ])
                refine wpAnyH_ready (rs := [25]) (by kernel_rfl) (by simp) ?_
                refine AllReadyH.cons rfl (fun K hK => ?_) AllReadyH.nil
                go_simp
                refine (at_any A1 n1 c1 l1 y _ H1.out (by omega) (by exact ((R19.out.below hHeld).more hHeld.size))).mono ?_
                rintro e wC ⟨rfl, hbC⟩
                rw [HV.out]
                go_wp2_with fail
                refine hK.out _ _ (bstep hHeld (Nat.le_refl _) (by assumption)) (fun hHeld => ?_)
                clear hK K
                (try simp only [List.setIfInBounds_toArray, List.set_cons_zero, List.set_cons_succ])
                refine take_in (v := ?_) 106 26 rfl rfl (by kernel_rfl) (by kernel_rfl) (by kernel_rfl) (fun _ _ _ h => h) (by rfl) ?_ (by assumption) ?_
                rotate_left 1
                · (intro w hSw; go_simp; (try with_reducible rfl))
                (try simp only [List.setIfInBounds_toArray, List.set_cons_zero, List.set_cons_succ])
                refine take_in (v := ?_) 107 27 rfl rfl (by kernel_rfl) (by kernel_rfl) (by kernel_rfl) (fun _ _ _ h => h) (by rfl) ?_ (by assumption) ?_
                rotate_left 1
                · (intro w hSw; go_simp; (try with_reducible rfl))
                (try simp only [List.setIfInBounds_toArray, List.set_cons_zero, List.set_cons_succ])
                refine take_in (v := ?_) 108 28 rfl rfl (by kernel_rfl) (by kernel_rfl) (by kernel_rfl) (fun _ _ _ h => h) (by rfl) ?_ (by assumption) ?_
                rotate_left 1
                · (intro w hSw; go_simp; (try with_reducible rfl))
                (try simp only [List.setIfInBounds_toArray, List.set_cons_zero, List.set_cons_succ])
                refine take_in (v := ?_) 109 29 rfl rfl (by kernel_rfl) (by kernel_rfl) (by kernel_rfl) (fun _ _ _ h => h) (by rfl) ?_ (by assumption) ?_
                rotate_left 1
                · (intro w hSw; go_simp; (try with_reducible rfl))
                (try simp only [List.setIfInBounds_toArray, List.set_cons_zero, List.set_cons_succ])
                refine wpAnyH_done (by kernel_rfl) ?_ _
                go_wp2
                go_roundw
                case rel => exact ⟨k + 1, by omega, by go_num, by rw [HL.out], bstep HB9.out (Nat.le_refl _) hHeld⟩
                case measure => simp only [intOf]; omega
    · obtain rfl : i = n2 := by omega
      have hf := HF.out hnp
      rw [H2.out] at hf
      generalize (rts l1 l2 i).length = cnt at hf ⊢
      clear HF
      replace HB := Lib.hid (bstep HB.out (Nat.le_refl _) hb)
      go_wp2_with fail
      go_ret
      exact ⟨rfl, HB.out⟩
end Go.Proofs.Ytneciddigglnmaa
