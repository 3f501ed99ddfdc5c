/- Recovery and Mend, of whatever volumes; the small words of the statements. -/
import Derived.Test.YthejbmjleohlfaaCk
import Derived.Test.YthejbmjleohlfaaCl
namespace Go.Proofs.Ythejbmjleohlfaa
set_option linter.unusedVariables false
open Go.RowKit Go.Shelf

/-- What Recovery tells. -/
def recVols (D R S M : Int) (L : List (List (List UInt8))) : List (List (List UInt8)) := if recCode D R S M L = 0 then recL D.toNat S.toNat M.toNat L else []
theorem recCode_zero {D R S M : Int} {L : List (List (List UInt8))} (h : recCode D R S M L = 0) : shapeB D R S M = true ∧ 1 ≤ L.length ∧ L.any (badR D S) = false ∧ (L.length : Int) + M ≤ 96 := by
  unfold recCode at h
  by_cases h1 : shapeB D R S M = false ∨ L = [] ∨ L.any (badR D S) = true
  · rw [if_pos h1] at h; cases h
  · rw [if_neg h1] at h
    by_cases h2 : 96 < (L.length : Int) + M
    · rw [if_pos h2] at h; cases h
    · refine ⟨?_, ?_, ?_, by omega⟩
      · cases hs : shapeB D R S M with
        | true => rfl
        | false => exact absurd (.inl hs) h1
      · rcases Nat.eq_zero_or_pos L.length with h3 | h3
        · exact absurd (.inr (.inl (List.eq_nil_of_length_eq_zero h3))) h1
        · exact h3
      · cases hs : L.any (badR D S) with
        | false => rfl
        | true => exact absurd (.inr (.inr hs)) h1
/-- A shape that may be, in natural numbers. -/
theorem shape_nat {D R S M : Int} (h : shapeB D R S M = true) : ∃ d s m hh : Nat, D = d ∧ S = s ∧ M = m ∧ s = 2 * hh ∧ 1 ≤ d ∧ d ≤ 64 ∧ s ≤ 512 ∧ m ≤ 32 ∧ 1 ≤ hh := by
  obtain ⟨a, b, _, _, e, f, g, hm, i⟩ := shapeB_iff.1 h
  have g2 : S % 2 = 0 := by rw [← Int.tmod_eq_emod_of_nonneg (by omega)]; exact g
  exact ⟨D.toNat, S.toNat, M.toNat, S.toNat / 2, by omega, by omega, by omega, by omega, by omega, by omega, by omega, by omega, by omega⟩
theorem recL_length (D S M : Nat) (L : List (List (List UInt8))) : (recL D S M L).length = M := tabL_length _ _ _ _
theorem rec_any (A : Option Addr) (n c : Nat) (D R S M : Int) (H : Nat → Option Addr × Nat) (L : List (List (List UInt8))) (w : World) (hl : L.length = n) (hrd : RdSS w w.heap.size A H L) (hn : n ≤ 1000000) :
    Calls Try.prog 10 #[shV D R S M, .slice A n c] w fun e w' => ∃ (A' : Option Addr) (n' c' : Nat) (H' : Nat → Option Addr × Nat), e = .returned (.tuple #[.slice A' n' c', .int .i64 (recCode D R S M L)]) ∧ OwnSS w' w.heap.size A' n' c' H' (recVols D R S M L) ∧ Below w.heap.size w w' := by
  by_cases h : recCode D R S M L = 0
  · obtain ⟨h1, h2, h3, h4⟩ := recCode_zero h
    obtain ⟨d, s, m, hh, rfl, rfl, rfl, hs, _⟩ := shape_nat h1
    refine (rec_ok A n c d s m hh R H L w hl hrd h1 hs (by omega) h3 (by omega)).mono ?_
    rintro e w' ⟨A', c', H', he, ho, hb⟩
    refine ⟨A', m, c', H', by rw [h]; exact he, ?_, hb⟩
    unfold recVols
    rw [if_pos h]
    exact ho
  · refine (rec_bad A n c D R S M H L w hl hrd hn h).mono ?_
    rintro e w' ⟨he, hb⟩
    refine ⟨none, 0, 0, fun _ => (none, 0), he, ?_, hb⟩
    unfold recVols
    rw [if_neg h]
    exact OwnSS.nil _ _ _

/-- What Mend tells: the volumes, and the error. -/
inductive MendIs (D R S M k : Int) (L : List (List (List UInt8))) : List (List (List UInt8)) → Int → Prop
  | bad (h : mendCode D R S M k L ≠ 0) : MendIs D R S M k L [] (mendCode D R S M k L)
  | made (f : Nat → Nat → List F) (h : mendCode D R S M k L = 0) (hf : ∀ r p, r < D.toNat → p < S.toNat / 2 → Dec L.length M.toNat (goneV L L.length) (wordL L L.length r (2 * p)) (f r p)) : MendIs D R S M k L (tabL L.length D.toNat S.toNat (mendF f)) 0
  | lost (h : mendCode D R S M k L = 0) (r p : Nat) (hr : r < D.toNat) (hp : p < S.toNat / 2) (hno : ∀ d, ¬ Dec L.length M.toNat (goneV L L.length) (wordL L L.length r (2 * p)) d) : MendIs D R S M k L [] 54
theorem mendCode_zero {D R S M k : Int} {L : List (List (List UInt8))} (h : mendCode D R S M k L = 0) : shapeB D R S M = true ∧ 1 ≤ k ∧ (L.length : Int) - M = k ∧ L.any (badM D S) = false ∧ L.length ≤ 96 := by
  unfold mendCode at h
  by_cases h1 : shapeB D R S M = false ∨ k < 1 ∨ (L.length : Int) - M ≠ k ∨ L.any (badM D S) = true
  · rw [if_pos h1] at h; cases h
  · rw [if_neg h1] at h
    by_cases h2 : 96 < L.length
    · rw [if_pos h2] at h; cases h
    · refine ⟨?_, ?_, ?_, ?_, by omega⟩
      · cases hs : shapeB D R S M with
        | true => rfl
        | false => exact absurd (.inl hs) h1
      · exact Classical.byContradiction fun h3 => h1 (.inr (.inl (by omega)))
      · exact Classical.byContradiction fun h3 => h1 (.inr (.inr (.inl h3)))
      · cases hs : L.any (badM D S) with
        | false => rfl
        | true => exact absurd (.inr (.inr (.inr hs))) h1
theorem crossMend_any (A : Option Addr) (n c : Nat) (D R S M k : Int) (H : Nat → Option Addr × Nat) (L : List (List (List UInt8))) (w : World) (hl : L.length = n) (hrd : RdSS w w.heap.size A H L) (hn : n ≤ 1000000) :
    Calls Try.prog 12 #[shV D R S M, .int .i64 k, .slice A n c] w fun e w' => ∃ (A' : Option Addr) (n' c' : Nat) (H' : Nat → Option Addr × Nat) (L' : List (List (List UInt8))) (x : Int), e = .returned (.tuple #[.slice A' n' c', .int .i64 x]) ∧ OwnSS w' w.heap.size A' n' c' H' L' ∧ MendIs D R S M k L L' x ∧ Below w.heap.size w w' := by
  by_cases h : mendCode D R S M k L = 0
  · obtain ⟨h1, h2, h3, h4, h5⟩ := mendCode_zero h
    obtain ⟨d, s, m, hh, rfl, rfl, rfl, hs, _⟩ := shape_nat h1
    subst hl
    have e1 : (s : Int).toNat / 2 = hh := by omega
    refine (mend_ok A L.length c d s m hh R k H L w rfl hrd h1 hs h2 h3 h4 h5).mono ?_
    rintro e w' (⟨f, A', c', H', hf, he, ho, hb⟩ | ⟨⟨r, p, hr, hp, hno⟩, he, hb⟩)
    · exact ⟨A', _, c', H', _, 0, he, ho, .made f h (fun r p hr hp => hf r p hr (by rw [← e1]; exact hp)), hb⟩
    · exact ⟨none, 0, 0, fun _ => (none, 0), [], 54, he, OwnSS.nil _ _ _, .lost h r p hr (by rw [e1]; exact hp) hno, hb⟩
  · refine (mend_bad A n c D R S M k H L w hl hrd hn h).mono ?_
    rintro e w' ⟨he, hb⟩
    exact ⟨none, 0, 0, fun _ => (none, 0), [], _, he, OwnSS.nil _ _ _, .bad h, hb⟩

set_option maxHeartbeats 400000 in
theorem one_any (s : List UInt8) (w : World) : Calls Try.prog 9 #[sv s] w fun e w' => e = .returned (.slice (some ⟨w.heap.size, 0, none⟩) 1 1) ∧ w' = w.alloc (.cells #[sv s] 9) := by
  unfold sv
  go_enter Try.func9, Try.ntmps9
  go_wp2_with fail
  go_ret
  exact ⟨rfl, rfl⟩
theorem results_sh {fn : Func} {p : Tmp} (hfn : fn.results = #[.cell p 31]) (tmps : Array Value) (w : World) (g : Nat) (D R S M : Int) (hp : tmps.getD p undef = .pointer (some ⟨g, 0, none⟩)) (h : ShapeAt w g D R S M) : (results fn tmps).run Try.prog w = .ok (shV D R S M) w := by
  have c0 := h.d
  have c1 := h.r
  have c2 := h.s
  have c3 := h.m
  unfold shV
  simp only [results, hfn]
  simp only [Sem.run_bind, hp, Array.mapM_eq_mapM_toList, List.mapM_cons, List.mapM_nil]
  go_simp
set_option maxHeartbeats 400000 in
theorem shape0_any (w : World) : Calls Try.prog 11 #[] w fun e w' => e = .returned (shV 1 0 2 1) ∧ Below w.heap.size w w' := by
  have SA := ShapeAt.new w 1 0 2 1
  have SB := balloc w (shO 1 0 2 1)
  unfold shO at SA SB
  go_enter Try.func11, Try.ntmps11
  go_wp2_with fail
  refine bodyPost_ret (results_sh rfl _ _ w.heap.size 1 0 2 1 rfl SA) rfl ?_
  exact ⟨rfl, SB⟩

/-- Volumes of one row each, or none, that are typed out. -/
def litV : Option (Nat × List UInt8) → Value
  | none => .slice none 0 0
  | some (b, _) => .slice (some ⟨b, 0, none⟩) 1 1
def litL : Option (Nat × List UInt8) → List (List UInt8)
  | none => []
  | some (_, s) => [s]
def litH (vs : List (Option (Nat × List UInt8))) (i : Nat) : Option Addr × Nat := match vs.getD i none with
  | none => (none, 0)
  | some (b, _) => (some ⟨b, 0, none⟩, 1)
theorem RdSS.lits {w : World} {g : Nat} (vs : List (Option (Nat × List UInt8))) (htop : ∀ i v, vs[i]? = some v → w.cell? ⟨g, i, none⟩ = some (litV v)) (hrow : ∀ b s, some (b, s) ∈ vs → w.cell? ⟨b, 0, none⟩ = some (sv s) ∧ b < w.heap.size) (hg : g < w.heap.size) :
    RdSS w w.heap.size (some ⟨g, 0, none⟩) (litH vs) (vs.map litL) := by
  have hget : ∀ i (hi : i < vs.length), (vs.map litL).getD i [] = litL vs[i] := fun i hi => by
    rw [List.getD, List.getElem?_map, List.getElem?_eq_getElem hi]; rfl
  have hh : ∀ i (hi : i < vs.length), litH vs i = match vs[i] with | none => (none, 0) | some (b, _) => (some ⟨b, 0, none⟩, 1) := fun i hi => by
    unfold litH
    rw [List.getD, List.getElem?_eq_getElem hi]; rfl
  refine ⟨fun _ => ⟨g, 0, rfl, hg, fun i v hv => ?_⟩, fun i hi h0 => ?_, fun i hi => ?_⟩
  · rw [Nat.zero_add]
    have hi : i < vs.length := by
      rcases Nat.lt_or_ge i vs.length with h | h
      · exact h
      · rw [List.getElem?_eq_none (by rw [hdV_length, List.length_map]; exact h)] at hv; cases hv
    rw [hdV_get _ (by rw [List.length_map]; exact hi), hget i hi, hh i hi] at hv
    rw [htop i vs[i] (List.getElem?_eq_getElem hi), ← hv]
    cases vs[i] with
    | none => rfl
    | some p => rfl
  · rw [List.length_map] at hi
    rw [hget i hi] at h0 ⊢
    rw [hh i hi]
    have hm : vs[i] ∈ vs := List.getElem_mem hi
    revert h0 hm
    cases vs[i] with
    | none => intro h0; simp [litL] at h0
    | some p =>
      intro _ hm
      obtain ⟨h1, h2⟩ := hrow p.1 p.2 hm
      refine ⟨p.1, 0, rfl, h2, fun j v hv => ?_⟩
      cases j with
      | zero =>
        simp [litL] at hv
        rw [← hv]; exact h1
      | succ j => simp [litL] at hv
  · rw [List.length_map] at hi
    rw [hget i hi]
    unfold maxLen
    cases vs[i] <;> simp [litL]
end Go.Proofs.Ythejbmjleohlfaa
