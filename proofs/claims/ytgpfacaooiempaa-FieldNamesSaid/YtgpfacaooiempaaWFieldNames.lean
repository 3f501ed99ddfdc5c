/- The walk of the closed statement FieldNames: the first 65535 powers of x are all unlike, and their logs are their numbers. -/
import Derived.Test.YtgpfacaooiempaaWField
import Derived.OwnWalk
import Derived.WalkSmall
namespace Go.Proofs.Ytgpfacaooiempaa
open Go.RowKit

theorem int_info : (Try.prog.info? 3).map (fun i => (i.zero, i.size, i.bytes)) = some (some (.int .i64 0), 1, 8) := by kernel_rfl

theorem own_below {w w' : World} {base : Nat} {e : TypeId} {size : Nat} {v : Value} {n : Nat} {xs : List Value} (h : w.ownsRow base e size v n xs) (hb : Below w.heap.size w w') : w'.ownsRow base e size v n xs := by
  refine ⟨h.1, ?_⟩
  rcases h.2 with h2 | ⟨g, cap, cur, hv, hbase, hg, h3⟩
  · exact .inl h2
  · refine .inr ⟨g, cap, cur, hv, hbase, ?_, h3⟩
    rw [hb.block g ?_]
    · exact hg
    · rcases Nat.lt_or_ge g w.heap.size with h | h
      · exact h
      · rw [Array.getElem?_eq_none h] at hg; cases hg

theorem exp_num (p : Value) (n m : Int) (w : World) (h : ((F.px (n % 65535).toNat).nat : Int) = m) : Calls Try.prog 15 #[p, .int .i64 n] w fun e w' => e = .returned (.int .u16 m) ∧ w = w' :=
  (exp_any p n w).mono fun _ _ ⟨he, hw⟩ => ⟨by rw [he, h], hw⟩
theorem exp_0 (p : Value) (w : World) : Calls Try.prog 15 #[p, .int .i64 0] w fun e w' => e = .returned (.int .u16 1) ∧ w = w' := exp_num p 0 1 w (by decide)
theorem exp_1 (p : Value) (w : World) : Calls Try.prog 15 #[p, .int .i64 1] w fun e w' => e = .returned (.int .u16 2) ∧ w = w' := exp_num p 1 2 w (by decide)
theorem exp_65535 (p : Value) (w : World) : Calls Try.prog 15 #[p, .int .i64 65535] w fun e w' => e = .returned (.int .u16 1) ∧ w = w' := exp_num p 65535 1 w (by decide)
theorem exp_m65536 (p : Value) (w : World) : Calls Try.prog 15 #[p, .int .i64 (-65536)] w fun e w' => e = .returned (.int .u16 34821) ∧ w = w' := exp_num p (-65536) 34821 w c_back
theorem exp_k (p : Value) (k : Nat) (w : World) : Calls Try.prog 15 #[p, .int .i64 k] w fun e w' => e = .returned (.int .u16 (F.px k).nat) ∧ w = w' :=
  exp_num p k _ w (by rw [F.px_mod k]; rfl)
theorem log_k (p : Value) (k : Nat) (hk : Hid (k < 65535)) (w : World) : Calls Try.prog 17 #[p, .int .u16 (F.px k).nat] w fun e w' => e = .returned (.tuple #[.int .i64 k, .bool true]) ∧ Below w.heap.size w w' :=
  (log_any p _ (F.px k) w rfl).mono fun _ _ ⟨he, hw⟩ => ⟨by rw [he, F.logn_px hk.out, decide_eq_false (F.px_ne_zero k)]; rfl, hw⟩

def left65n (v : Value) : Nat := 65535 - (intOf v).toNat
theorem left65n_lt {k : Nat} (h : k < 65535) : left65n (.int .i64 ((k : Int) + 1)) < left65n (.int .i64 k) := by unfold left65n; simp only [intOf]; omega
/-- What is known of the numbers that were not met yet. -/
def Unmet (k N : Nat) (xs : List Value) : Prop := xs.length = N ∧ ∀ v : F, (∀ i, i < k → F.px i ≠ v) → xs[v.nat]? = some (.int .i64 0)
theorem unmet_start : Unmet 0 65536 (madeCells #[Value.int .i64 0] (65536 * 1)).toList := by
  rw [toList_madeCells_one]
  refine ⟨by rw [List.length_replicate], fun v _ => ?_⟩
  have := v.nat_lt
  rw [List.getElem?_replicate, if_pos (by omega)]
theorem unmet_next {k N : Nat} {xs : List Value} (h : Unmet k N xs) (u : Value) : Unmet (k + 1) N (xs.set (F.px k).nat u) := by
  refine ⟨by rw [List.length_set]; exact h.1, fun v hv => ?_⟩
  rw [List.getElem?_set_ne (fun e => hv k (by omega) (F.nat_inj e))]
  exact h.2 v fun i hi => hv i (by omega)
theorem unmet_here {k N : Nat} {xs : List Value} (h : Unmet k N xs) (hk : k < 65535) : xs[(F.px k).nat]? = some (.int .i64 0) :=
  h.2 _ fun i hi e => by have := F.px_inj (by omega) hk e; omega

/-- The loop's relation. -/
def NRel (B g N : Nat) (w : World) (x n : Value) (wr : World) : Prop :=
  ∃ (k : Nat) (xs : List Value), k ≤ 65535 ∧ x = .int .u16 (F.px k).nat ∧ n = .int .i64 k ∧ wr.ownsRow B 3 1 (.slice (some ⟨g, 0, none⟩) N N) N xs ∧ Unmet k N xs ∧ Below B w wr

theorem names_rel {B g N k : Nat} {w wr w' : World} {xs : List Value} (hown : wr.ownsRow B 3 1 (.slice (some ⟨g, 0, none⟩) N N) N xs) (hu : Unmet k N xs) (hb : Below B w wr) (hk : Hid (k < 65535)) (h2 : Below (wr.setCell ⟨g, (F.px k).nat, none⟩ (.int .i64 1)).heap.size (wr.setCell ⟨g, (F.px k).nat, none⟩ (.int .i64 1)) w') :
    NRel B g N w (.int .u16 (F.px k * F.px 1).nat) (.int .i64 ((k : Int) + 1)) w' := by
  have hs := hown.stored (F.px k).nat (.int .i64 1)
  have hg := hown.lt g rfl
  refine ⟨k + 1, _, hk.out, by rw [F.px_add k 1], rfl, own_below hs.1 h2, unmet_next hu _, (hb.setCell (p := ⟨g, (F.px k).nat, none⟩) hg.1 _).trans (h2.mono ?_)⟩
  have := hg.1
  simp only [World.setCell, Array.size_modify]
  omega

set_option maxHeartbeats 4000000 in
theorem names_walk (w : World) :
    Calls Try.prog 4 #[] w fun e w' => e = .returned (.bool true) ∧ Below w.heap.size w w' := by
  obtain ⟨i0, hi0, hz0, hz1, hz2⟩ := info_parts int_info
  obtain ⟨N, hN⟩ : ∃ N : Nat, N = 65536 := ⟨_, rfl⟩
  have HN := Lib.hid hN
  clear hN
  go_enter Try.func4, Try.ntmps4
  go_wp2_with (first
    | (go_at_call 10; refine (new_any _).mono ?_; rintro e w' ⟨rfl, rfl⟩)
    | (at_make; refine wpList_make_full _ rfl _ _ 31 rfl w.heap.size 3 i0 (.int .i64 0) 1 Try.underlying31 hi0 hz0 hz1 .i64 .i64 65536 65536 N rfl rfl (by rw [HN.out]; rfl) (by rw [HN.out]; rfl) (by rw [HN.out, hz2]; decide) (by rw [HN.out]; decide) (by simp) ?_; intro w1 hown hgrow))
  have hM : Unmet 0 N (madeCells (Value.int .i64 0).cells (N * 1)).toList := by rw [HN.out]; exact unmet_start
  have hB : Below w.heap.size w w1 := (balloc _ _).grown hgrow (by simp) (by simp)
  have HM := Lib.hid hM
  have hNm : N ≤ maxLen := by rw [HN.out]; decide
  clear hM
  generalize (madeCells (Value.int .i64 0).cells (N * 1)).toList = xs0 at *
  go_loopw [3, 4] (fun x n wr => NRel w.heap.size (w.heap.size + 1) N w x n wr) (fun _ n _ => left65n n)
  case atStart => exact ⟨0, xs0, by omega, rfl, rfl, by simpa using hown, HM.out, hB⟩
  case round =>
    obtain ⟨k, xs, hk, rfl, rfl, hown, hun, hbel⟩ := hrel
    have HU := Lib.hid hun
    have HK := Lib.hid hk
    clear hun hk HM
    by_cases hlt : k < 65535
    · have ht1 : decide ((k : Int) < 65535) = true := by simp; omega
      have HLT := Lib.hid hlt
      have hxN : (F.px k).nat < N := by rw [HN.out]; exact F.nat_lt _
      have hcell : wr.cell? ⟨w.heap.size + 1, (F.px k).nat, none⟩ = some (.int .i64 0) := by
        rw [hown.cellAt _ (by omega)]; exact unmet_here HU.out hlt
      have hfro := hown.frozenAt (F.px k).nat
      have hnz := feq0' (F.px_ne_zero k)
      clear hlt
      rcases Bool.eq_false_or_eq_true ((k : Int) % 97 == 0) with d1 | d1
      · go_wp2_with fail
        refine (log_k _ k HLT _).mono ?_
        rintro e w2 ⟨rfl, hb2⟩
        go_wp2_with (first
          | (go_at_call 15; refine (exp_k _ k _).mono ?_; rintro e w' ⟨rfl, rfl⟩)
          | (go_at_call 13; refine (mul_any _ _ _ (F.px k) (F.px 1) _ rfl rfl).mono ?_; rintro e w' ⟨rfl, rfl⟩))
        have hw : wrap64 ((k : Int) + 1) = (k : Int) + 1 := wrap64_small HLT.out
        go_roundw
        case rel => rw [hw]; exact names_rel hown HU.out hbel HLT hb2
        case measure => rw [hw]; exact left65n_lt HLT.out
      · rcases Bool.eq_false_or_eq_true (decide ((k : Int) < 3)) with d2 | d2
        · go_wp2_with fail
          refine (log_k _ k HLT _).mono ?_
          rintro e w2 ⟨rfl, hb2⟩
          go_wp2_with (first
            | (go_at_call 15; refine (exp_k _ k _).mono ?_; rintro e w' ⟨rfl, rfl⟩)
            | (go_at_call 13; refine (mul_any _ _ _ (F.px k) (F.px 1) _ rfl rfl).mono ?_; rintro e w' ⟨rfl, rfl⟩))
          have hw : wrap64 ((k : Int) + 1) = (k : Int) + 1 := wrap64_small HLT.out
          go_roundw
          case rel => rw [hw]; exact names_rel hown HU.out hbel HLT hb2
          case measure => rw [hw]; exact left65n_lt HLT.out
        · rcases Bool.eq_false_or_eq_true (decide ((65530 : Int) < (k : Int))) with d3 | d3
          · go_wp2_with fail
            refine (log_k _ k HLT _).mono ?_
            rintro e w2 ⟨rfl, hb2⟩
            go_wp2_with (first
              | (go_at_call 15; refine (exp_k _ k _).mono ?_; rintro e w' ⟨rfl, rfl⟩)
              | (go_at_call 13; refine (mul_any _ _ _ (F.px k) (F.px 1) _ rfl rfl).mono ?_; rintro e w' ⟨rfl, rfl⟩))
            have hw : wrap64 ((k : Int) + 1) = (k : Int) + 1 := wrap64_small HLT.out
            go_roundw
            case rel => rw [hw]; exact names_rel hown HU.out hbel HLT hb2
            case measure => rw [hw]; exact left65n_lt HLT.out
          · go_wp2_with (go_at_call 13; refine (mul_any _ _ _ (F.px k) (F.px 1) _ rfl rfl).mono ?_; rintro e w' ⟨rfl, rfl⟩)
            have hw : wrap64 ((k : Int) + 1) = (k : Int) + 1 := wrap64_small HLT.out
            go_roundw
            case rel => rw [hw]; exact names_rel hown HU.out hbel HLT (Below.refl _ _)
            case measure => rw [hw]; exact left65n_lt HLT.out
    · have ht1 : decide ((k : Int) < 65535) = false := by simp; omega
      clear hlt HU HK
      go_wp2_with fail
      refine (log_zero _ _).mono ?_
      rintro e w2 ⟨rfl, rfl⟩
      go_wp2_with fail
      refine (inv_c _ _).mono ?_
      rintro e w2 ⟨rfl, rfl⟩
      go_wp2_with fail
      refine (works_any _).mono ?_
      rintro e w2 ⟨rfl, hb2⟩
      go_wp2_with fail
      refine (exp_0 _ _).mono ?_
      rintro e w3 ⟨rfl, rfl⟩
      go_wp2_with fail
      refine (exp_1 _ _).mono ?_
      rintro e w3 ⟨rfl, rfl⟩
      go_wp2_with fail
      refine (exp_65535 _ _).mono ?_
      rintro e w3 ⟨rfl, rfl⟩
      go_wp2_with fail
      refine (exp_m65536 _ _).mono ?_
      rintro e w3 ⟨rfl, rfl⟩
      go_wp2_with fail
      refine (exp_d _ _).mono ?_
      rintro e w3 ⟨rfl, rfl⟩
      go_wp2_with fail
      go_ret
      exact ⟨rfl, bstep hbel (Nat.le_refl _) hb2⟩
end Go.Proofs.Ytgpfacaooiempaa
