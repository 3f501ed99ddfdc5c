/- Some places of a word, each once: what the statements' own helper tells. -/
import Derived.Test.YtbahelhhkmonmaaSs2
import Derived.Test.YtbahelhhkmonmaaOg
namespace Go.Proofs.Ytbahelhhkmonmaa
open Go.RowKit Go.Shelf

/-- A number, as a place of n. -/
def zmod (z : Int) (n : Nat) : Nat := ((IntKind.u64.wrap z) % (n : Int)).toNat
theorem u64_nat (z : Int) : ∃ u : Nat, IntKind.u64.wrap z = (u : Int) := by
  refine ⟨(IntKind.u64.wrap z).toNat, ?_⟩
  have : 0 ≤ IntKind.u64.wrap z := by
    simp [IntKind.wrap, IntKind.bits, IntKind.signed]
    exact Int.emod_nonneg _ (by decide)
  omega
theorem zmod_lt (z : Int) {n : Nat} (h : 1 ≤ n) : zmod z n < n := by
  unfold zmod
  have h1 := Int.emod_lt_of_pos (IntKind.u64.wrap z) (show (0 : Int) < (n : Int) by omega)
  have h2 := Int.emod_nonneg (IntKind.u64.wrap z) (show (n : Int) ≠ 0 by omega)
  omega
theorem u64_small {n : Nat} (h : n ≤ 100000) : IntKind.u64.wrap (n : Int) = (n : Int) := by
  simp [IntKind.wrap, IntKind.bits, IntKind.signed]
  exact Int.emod_eq_of_lt (by omega) (by omega)
theorem zmod_id {p n : Nat} (h : p < n) (hn : n ≤ 100000) : zmod (p : Int) n = p := by
  unfold zmod
  rw [u64_small (by omega), Int.emod_eq_of_lt (by omega) (by omega)]
  rfl
def plStep (n most : Nat) (out : List Nat) (z : Int) : List Nat := if out.length < most then (if zmod z n ∈ out then out else out ++ [zmod z n]) else out
def placesL (zs : List Int) (n most : Nat) : List Nat := zs.foldl (plStep n most) []
theorem placesL_take (n most : Nat) {zs : List Int} {k : Nat} {z : Int} (h : k < zs.length) (hz : zs[k]? = some z) : placesL (zs.take (k + 1)) n most = plStep n most (placesL (zs.take k) n most) z := by
  rw [List.getElem?_eq_getElem h] at hz
  injection hz with hz
  rw [List.take_succ_eq_append_getElem h, placesL, List.foldl_append, hz]
  rfl
structure Pl (n most : Nat) (out : List Nat) : Prop where
  nd : out.Nodup
  lt : ∀ p ∈ out, p < n
  few : out.length ≤ most
theorem plStep_pl {n most : Nat} {out : List Nat} (h : Pl n most out) (hn : 1 ≤ n) (z : Int) : Pl n most (plStep n most out z) := by
  unfold plStep
  split
  · split
    · exact h
    · rename_i h1 h2
      refine ⟨List.nodup_append.2 ⟨h.nd, by simp, fun a ha b hb e => ?_⟩, fun p hp => ?_, by rw [List.length_append]; simp; omega⟩
      · rw [List.mem_singleton] at hb; subst hb; subst e; exact h2 ha
      · rcases List.mem_append.1 hp with hp | hp
        · exact h.lt p hp
        · rw [List.mem_singleton] at hp; subst hp; exact zmod_lt z hn
  · exact h
theorem foldl_pl {n most : Nat} (hn : 1 ≤ n) (zs : List Int) : ∀ out, Pl n most out → Pl n most (zs.foldl (plStep n most) out) := by
  induction zs with
  | nil => intro out h; exact h
  | cons z zs ih => intro out h; exact ih _ (plStep_pl h hn z)
theorem placesL_pl {n most : Nat} (hn : 1 ≤ n) (zs : List Int) : Pl n most (placesL zs n most) := foldl_pl hn zs [] ⟨List.nodup_nil, by simp, by simp⟩
theorem foldl_full {n most : Nat} (zs : List Int) : ∀ out : List Nat, most ≤ out.length → zs.foldl (plStep n most) out = out := by
  induction zs with
  | nil => intro out _; rfl
  | cons z zs ih =>
    intro out h
    rw [List.foldl_cons]
    have e : plStep n most out z = out := by unfold plStep; rw [if_neg (by omega)]
    rw [e]; exact ih out h
theorem placesL_full {n most k : Nat} {zs : List Int} (h : most ≤ (placesL (zs.take k) n most).length) : placesL (zs.take k) n most = placesL zs n most := by
  have e : placesL zs n most = (zs.drop k).foldl (plStep n most) (placesL (zs.take k) n most) := by
    unfold placesL
    rw [← List.foldl_append, List.take_append_drop]
  rw [e, foldl_full _ _ h]
theorem foldl_more {n most : Nat} (zs : List Int) : ∀ out : List Nat, ∃ t, zs.foldl (plStep n most) out = out ++ t := by
  induction zs with
  | nil => intro out; exact ⟨[], (List.append_nil _).symm⟩
  | cons z zs ih =>
    intro out
    rw [List.foldl_cons]
    obtain ⟨t, ht⟩ := ih (plStep n most out z)
    rw [ht]
    unfold plStep
    split
    · split
      · exact ⟨t, rfl⟩
      · exact ⟨[zmod z n] ++ t, by rw [List.append_assoc]⟩
    · exact ⟨t, rfl⟩
theorem foldl_all {n most : Nat} (hn : n ≤ 100000) (gs : List Nat) : ∀ out : List Nat, (out ++ gs).Nodup → (∀ p ∈ gs, p < n) → (out ++ gs).length ≤ most → (gs.map fun g : Nat => (g : Int)).foldl (plStep n most) out = out ++ gs := by
  induction gs with
  | nil => intro out _ _ _; exact (List.append_nil _).symm
  | cons g gs ih =>
    intro out hnd hlt hle
    rw [List.map_cons, List.foldl_cons]
    have hg := hlt g (by simp)
    have hni : g ∉ out := fun h => (List.nodup_append.1 hnd).2.2 g h g (by simp) rfl
    rw [List.length_append, List.length_cons] at hle
    have e : plStep n most out (g : Int) = out ++ [g] := by
      unfold plStep
      rw [zmod_id hg hn, if_pos (by omega), if_neg hni]
    rw [e, ih (out ++ [g]) (by rw [List.append_assoc]; exact hnd) (fun p hp => hlt p (by simp [hp])) (by rw [List.length_append, List.length_append]; simp; omega), List.append_assoc]
    rfl
/-- What is told once is told again first. -/
theorem placesL_again {n most : Nat} (hn : n ≤ 100000) {gs : List Nat} (ws : List Int) (hnd : gs.Nodup) (hlt : ∀ p ∈ gs, p < n) (hle : gs.length ≤ most) : ∃ t, placesL (gs.map (fun g : Nat => (g : Int)) ++ ws) n most = gs ++ t := by
  unfold placesL
  rw [List.foldl_append, foldl_all hn gs [] hnd hlt hle]
  exact foldl_more ws _

/-- A place as a value. -/
def pv64 (p : Nat) : Value := .int .i64 (p : Int)
theorem ieqP {x y : Nat} (h : x = y) : ((x : Int) == (y : Int)) = true := by rw [h]; exact beq_self_eq_true _
theorem ineP {x y : Nat} (h : ¬ x = y) : ((x : Int) == (y : Int)) = false := by rw [beq_eq_false_iff_ne]; omega
theorem int_el : El 23 3 (.int .i64 0) 8 := ⟨Try.underlying23, by kernel_rfl, by decide, rfl⟩
theorem take_mem_yes {out : List Nat} {p j : Nat} (h : p ∈ out.take j) : p ∈ out.take (j + 1) := List.take_subset_take_left _ (by omega) h
theorem take_mem_here {out : List Nat} {p j : Nat} (hj : j < out.length) (h : out.getD j 0 = p) : p ∈ out.take (j + 1) := by
  rw [List.take_succ_eq_append_getElem hj]
  rw [List.getD, List.getElem?_eq_getElem hj] at h
  exact List.mem_append.2 (.inr (by rw [List.mem_singleton]; exact h.symm))
theorem take_mem_no {out : List Nat} {p j : Nat} (hj : j < out.length) (h : p ∉ out.take j) (h2 : ¬ out.getD j 0 = p) : p ∉ out.take (j + 1) := fun h3 => by
  rw [List.take_succ_eq_append_getElem hj] at h3
  rw [List.getD, List.getElem?_eq_getElem hj] at h2
  rcases List.mem_append.1 h3 with h3 | h3
  · exact h h3
  · rw [List.mem_singleton] at h3; exact h2 h3.symm
theorem zslot (z : Int) {n : Nat} (h : 1 ≤ n) (hn : n ≤ 100000) : wrap64 ((IntKind.u64.wrap z).tmod (n : Int)) = (zmod z n : Int) := by
  obtain ⟨u, hu⟩ := u64_nat z
  have h1 := zmod_lt z h
  unfold zmod at h1 ⊢
  rw [hu] at h1 ⊢
  have e : ((u : Int)).tmod (n : Int) = (u : Int) % (n : Int) := Int.tmod_eq_emod_of_nonneg (by omega)
  have h2 := Int.emod_nonneg (u : Int) (show (n : Int) ≠ 0 by omega)
  rw [e, IntWalk.wrap64_in _ ⟨by omega, by omega⟩]
  omega

set_option maxRecDepth 100000 in
set_option maxHeartbeats 2000000 in
theorem places_any (A : Option Addr) (len cap n most : Nat) (zs : List Int) (w : World) (hlen : zs.length = len) (hm : len ≤ 1000) (hI : RdI w w.heap.size A zs) (hn : 1 ≤ n) (hn2 : n ≤ 100000) (hmost : most ≤ 100000) :
    Calls Try.prog 14 #[.slice A len cap, .int .i64 n, .int .i64 most] w fun e w' => ∃ A' c', e = .returned (.slice A' (placesL zs n most).length c') ∧ OwnV 3 w' w.heap.size A' (placesL zs n most).length c' ((placesL zs n most).map pv64) ∧ Below w.heap.size w w' := by
  have HL := Lib.hid hlen
  have HI := Lib.hid hI
  clear hlen hI
  go_enter Try.func14, Try.ntmps14
  go_wp2
  go_loopw [7, 8] (fun v i wr => ∃ (k m : Nat) (A' : Option Addr) (c : Nat), k ≤ len ∧ i = .int .i64 k ∧ v = .slice A' m c ∧ m = (placesL (zs.take k) n most).length ∧ OwnV 3 wr w.heap.size A' m c ((placesL (zs.take k) n most).map pv64) ∧ Below w.heap.size w wr) (fun _ i _ => len - (intOf i).toNat)
  case atStart => exact ⟨0, 0, none, 0, Nat.zero_le _, rfl, rfl, rfl, OwnV.nil _ _ _, Below.refl _ _⟩
  case round =>
    obtain ⟨k, m, A', c, hk, rfl, rfl, hml, hown, hbel⟩ := hrel
    have HPL := Lib.hid (placesL_pl (most := most) hn (zs.take k))
    have HFULL := Lib.hid (placesL_full (n := n) (most := most) (k := k) (zs := zs))
    have hfew := HPL.out.few
    rw [← hml] at hfew HFULL
    have HO := Lib.hid hown
    have HB := Lib.hid hbel
    have HML := Lib.hid hml
    clear hown hml
    by_cases hlt : k < len
    · obtain ⟨b, off, rfl, hb, hc⟩ := (HI.out.below hbel) (by rw [HL.out]; omega)
      have c1 := hc k (by rw [HL.out]; exact hlt)
      have HS := Lib.hid (placesL_take n most (k := k) (zs := zs) (z := zs[k]?.getD 0) (by rw [HL.out]; exact hlt) (by rw [List.getElem?_eq_getElem (by rw [HL.out]; exact hlt)]; rfl))
      clear hc
      by_cases hfl : m < most
      · generalize placesL (zs.take k) n most = out at HO HML HS HPL HFULL
        generalize zs[k]?.getD 0 = z at c1 HS
        go_wp2_with fail
        rw [zslot z hn hn2]
        have hpn := zmod_lt z hn
        have HSY := Lib.hid (fun h : zmod z n ∈ out => HS.out.trans (show plStep n most out z = out by unfold plStep; rw [if_pos (by rw [← HML.out]; exact hfl), if_pos h]))
        have HSN := Lib.hid (fun h : zmod z n ∉ out => HS.out.trans (show plStep n most out z = out ++ [zmod z n] by unfold plStep; rw [if_pos (by rw [← HML.out]; exact hfl), if_neg h]))
        clear HS
        generalize zmod z n = p at HSY HSN hpn ⊢
        go_loop [10, 11] (fun v i => ∃ j : Nat, j ≤ m ∧ i = .int .i64 j ∧ v = .bool (decide (p ∈ out.take j))) (fun _ i => m - (intOf i).toNat)
        case atStart => exact ⟨0, Nat.zero_le _, rfl, rfl⟩
        case round =>
          obtain ⟨j, hj, rfl, rfl⟩ := hrel
          by_cases hjm : j < m
          · obtain ⟨g, rfl, hg1, hg2⟩ := HO.out.form (by omega)
            have hjl : j < out.length := by rw [← HML.out]; exact hjm
            have c2 := HO.out.cell (j := j) (v := pv64 (out.getD j 0)) (by rw [List.getElem?_map, List.getElem?_eq_getElem hjl, List.getD, List.getElem?_eq_getElem hjl]; rfl)
            unfold pv64 at c2
            by_cases hin : p ∈ out.take j
            · have e1 := decide_eq_true hin
              have HN := Lib.hid (decide_eq_true (take_mem_yes hin))
              clear hin c2
              go_wp2
              go_round
              case rel => exact ⟨j + 1, by omega, by go_num, by rw [HN.out]⟩
              case measure => simp only [intOf]; omega
            · have e1 := decide_eq_false hin
              by_cases he : out.getD j 0 = p
              · have HN := Lib.hid (decide_eq_true (take_mem_here hjl he))
                have e2 := ieqP he
                clear hin he
                generalize out.getD j 0 = x at c2 e2
                go_wp2
                go_round
                case rel => exact ⟨j + 1, by omega, by go_num, by rw [HN.out]⟩
                case measure => simp only [intOf]; omega
              · have HN := Lib.hid (decide_eq_false (take_mem_no hjl hin he))
                have e2 := ineP he
                clear hin he
                generalize out.getD j 0 = x at c2 e2
                go_wp2
                go_round
                case rel => exact ⟨j + 1, by omega, by go_num, by rw [HN.out]⟩
                case measure => simp only [intOf]; omega
          · obtain rfl : j = m := by omega
            rw [List.take_of_length_le (by rw [← HML.out]; exact Nat.le_refl _)]
            by_cases hin : p ∈ out
            · have e1 := decide_eq_true hin
              have HS2 := Lib.hid (HSY.out hin)
              clear hin
              go_wp2
              go_roundw
              case rel => exact ⟨k + 1, j, A', c, by omega, by go_num, rfl, by rw [HS2.out]; exact HML.out, by rw [HS2.out]; exact HO.out, HB.out⟩
              case measure => simp only [intOf]; omega
            · have e1 := decide_eq_false hin
              have HS2 := Lib.hid (HSN.out hin)
              clear hin
              go_wp2_with (at_builtin; refine wpList_pushV int_el _ rfl _ _ rfl w.heap.size _ _ _ _ rfl (HO.out.alloc _) wr.heap.size 1 (pv64 p) rfl rfl (by unfold pv64; go_cell) (by omega) (by have := HB.out.size; simp; omega) ?_; intro A2 c2 w2 hown2 hb2 hg2)
              go_roundw
              case rel => exact ⟨k + 1, j + 1, A2, c2, by omega, by go_num, rfl, by rw [HS2.out, List.length_append, ← HML.out]; rfl, by rw [HS2.out, List.map_append]; exact hown2, (HB.out.alloc HB.out.size _).trans hb2⟩
              case measure => simp only [intOf]; omega
      · have HE := Lib.hid (HFULL.out (by omega))
        have hf : decide ((m : Int) < (most : Int)) = false := decide_eq_false (by omega)
        go_wp2
        go_ret
        exact ⟨A', c, by rw [← HE.out, ← HML.out]; rfl, by rw [← HE.out, ← HML.out]; exact HO.out, HB.out⟩
    · obtain rfl : k = len := by omega
      have HE := Lib.hid (show zs.take k = zs from List.take_of_length_le (by rw [HL.out]; exact Nat.le_refl _))
      rw [HE.out] at HO HML
      go_wp2
      go_ret
      exact ⟨A', c, by rw [← HML.out]; rfl, by rw [← HML.out]; exact HO.out, HB.out⟩
end Go.Proofs.Ytbahelhhkmonmaa
