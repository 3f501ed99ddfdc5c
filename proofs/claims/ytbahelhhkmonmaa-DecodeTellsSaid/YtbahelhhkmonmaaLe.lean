/- Linear equations over the field: what their rows are turned by, and when there is just one solution. -/
import Derived.Test.YtbahelhhkmonmaaRsm
namespace Go.Proofs.Ytbahelhhkmonmaa

/-- x solves R equations of n unknowns; the right side of equation i is f i n. -/
def Sol (R n : Nat) (f : Nat → Nat → F) (x : Nat → F) : Prop := ∀ i, i < R → fsum n (fun k => f i k * x k) = f i n
theorem Sol.congr {R n : Nat} {f g : Nat → Nat → F} {x y : Nat → F} (h : Sol R n f x) (hf : ∀ i, i < R → ∀ k, k ≤ n → g i k = f i k) (hx : ∀ k, k < n → y k = x k) : Sol R n g y := fun i hi => by
  rw [hf i hi n (Nat.le_refl _), ← h i hi]
  exact fsum_congr fun k hk => by rw [hf i hi k (by omega), hx k hk]
def swapF (f : Nat → Nat → F) (a b : Nat) : Nat → Nat → F := fun i => if i = a then f b else if i = b then f a else f i
def scaleF (f : Nat → Nat → F) (c : Nat) (v : F) : Nat → Nat → F := fun i k => if i = c then f i k * v else f i k
def elimF (f : Nat → Nat → F) (c : Nat) : Nat → Nat → F := fun i k => if i = c then f i k else f i k + f i c * f c k
theorem sol_swap {R n a b : Nat} {f : Nat → Nat → F} {x : Nat → F} (ha : a < R) (hb : b < R) : Sol R n (swapF f a b) x ↔ Sol R n f x := by
  constructor
  · intro h i hi
    by_cases e1 : i = a
    · subst e1
      have := h b hb
      by_cases e2 : b = i
      · subst e2; simpa [swapF] using this
      · simpa [swapF, e2] using this
    · by_cases e2 : i = b
      · subst e2
        have := h a ha
        simpa [swapF] using this
      · have := h i hi
        simpa [swapF, e1, e2] using this
  · intro h i hi
    by_cases e1 : i = a
    · subst e1; simpa [swapF] using h b hb
    · by_cases e2 : i = b
      · subst e2; simpa [swapF, e1] using h a ha
      · simpa [swapF, e1, e2] using h i hi
theorem sol_scale {R n c : Nat} {f : Nat → Nat → F} {x : Nat → F} {v : F} (hv : v ≠ 0) : Sol R n (scaleF f c v) x ↔ Sol R n f x := by
  have key : ∀ i, (fsum n (fun k => scaleF f c v i k * x k) = scaleF f c v i n) ↔ (fsum n (fun k => f i k * x k) = f i n) := fun i => by
    by_cases e : i = c
    · subst e
      have h1 : fsum n (fun k => scaleF f i v i k * x k) = fsum n (fun k => f i k * x k) * v := by
        rw [fsum_mul]
        refine fsum_congr fun k _ => ?_
        simp only [scaleF, if_pos]
        ac_rfl
      rw [h1]
      simp only [scaleF, if_pos]
      exact ⟨fun h => F.mul_right_cancel hv h, fun h => by rw [h]⟩
    · simp only [scaleF, if_neg e]
  exact ⟨fun h i hi => (key i).1 (h i hi), fun h i hi => (key i).2 (h i hi)⟩
theorem sol_elim {R n c : Nat} {f : Nat → Nat → F} {x : Nat → F} (hc : c < R) : Sol R n (elimF f c) x ↔ Sol R n f x := by
  have row : ∀ i, i ≠ c → fsum n (fun k => elimF f c i k * x k) = fsum n (fun k => f i k * x k) + f i c * fsum n (fun k => f c k * x k) := fun i e => by
    rw [mul_fsum, ← fsum_add]
    refine fsum_congr fun k _ => ?_
    simp only [elimF, if_neg e]
    rw [F.add_mul, F.mul_assoc]
  constructor
  · intro h i hi
    have hcc := h c hc
    simp only [elimF, if_pos] at hcc
    by_cases e : i = c
    · subst e; exact hcc
    · have h1 := h i hi
      rw [row i e, hcc] at h1
      simp only [elimF, if_neg e] at h1
      exact F.add_right_cancel h1
  · intro h i hi
    by_cases e : i = c
    · subst e
      have := h i hi
      simpa only [elimF, if_pos] using this
    · rw [row i e, h c hc, h i hi]
      simp only [elimF, if_neg e]
/-- The first c columns are those of the unit. -/
def Unit (R c : Nat) (f : Nat → Nat → F) : Prop := ∀ i, i < R → ∀ k, k < c → f i k = if i = k then 1 else 0
theorem unit_start (R : Nat) (f : Nat → Nat → F) : Unit R 0 f := fun _ _ _ hk => absurd hk (by omega)
def stepF (f : Nat → Nat → F) (a c : Nat) : Nat → Nat → F := elimF (scaleF (swapF f a c) c (F.inv (f a c))) c
theorem swap_here (f : Nat → Nat → F) (a c : Nat) : swapF f a c c = f a := by
  by_cases e : c = a
  · subst e; simp [swapF]
  · simp [swapF, e]
theorem unit_step {R c a : Nat} {f : Nat → Nat → F} (h : Unit R c f) (hca : c ≤ a) (ha : a < R) (hp : f a c ≠ 0) : Unit R (c + 1) (stepF f a c) := by
  have hsw : ∀ i, i < R → ∀ k, k < c → swapF f a c i k = if i = k then 1 else 0 := fun i hi k hk => by
    by_cases e1 : i = a
    · subst e1
      simp only [swapF, if_pos]
      rw [h c (by omega) k hk, if_neg (by omega), if_neg (by omega)]
    · by_cases e2 : i = c
      · subst e2
        simp only [swapF, if_neg e1, if_pos]
        rw [h a ha k hk, if_neg (by omega), if_neg (by omega)]
      · simp only [swapF, if_neg e1, if_neg e2]
        exact h i hi k hk
  intro i hi k hk
  have hcc : scaleF (swapF f a c) c (F.inv (f a c)) c c = 1 := by
    simp only [scaleF, if_pos]
    rw [swap_here, F.mul_inv hp]
  rcases Nat.lt_or_ge k c with hkc | hkc
  · have hck : scaleF (swapF f a c) c (F.inv (f a c)) c k = 0 := by
      simp only [scaleF, if_pos]
      rw [hsw c (by omega) k hkc, if_neg (by omega), F.zero_mul]
    by_cases e : i = c
    · subst e
      simp only [stepF, elimF, if_pos]
      rw [hck, if_neg (by omega)]
    · simp only [stepF, elimF, if_neg e]
      rw [hck, F.mul_zero, F.add_zero]
      simp only [scaleF, if_neg e]
      exact hsw i hi k hkc
  · obtain rfl : k = c := by omega
    by_cases e : i = k
    · subst e
      simp only [stepF, elimF, if_pos]
      exact hcc
    · simp only [stepF, elimF, if_neg e]
      rw [hcc, F.mul_one, F.add_self]
theorem sol_step {R n c a : Nat} {f : Nat → Nat → F} {x : Nat → F} (hc : c < R) (ha : a < R) (hp : f a c ≠ 0) : Sol R n (stepF f a c) x ↔ Sol R n f x := by
  rw [stepF, sol_elim hc, sol_scale (F.inv_ne_zero hp), sol_swap ha hc]
/-- No pivot: there is not just one solution. -/
theorem sol_not_one {R n c : Nat} {f : Nat → Nat → F} {x : Nat → F} (hu : Unit R c f) (hcn : c < n) (hz : ∀ i, c ≤ i → i < R → f i c = 0) (h : Sol R n f x) : ∃ y, Sol R n f y ∧ ∃ k, k < n ∧ y k ≠ x k := by
  refine ⟨fun k => x k + ((if k = c then 1 else 0) + (if k < c then f k c else 0)), fun i hi => ?_, c, hcn, fun e => ?_⟩
  · have e1 : fsum n (fun k => f i k * (x k + ((if k = c then 1 else 0) + (if k < c then f k c else 0)))) = fsum n (fun k => f i k * x k) + (fsum n (fun k => f i k * (if k = c then 1 else 0)) + fsum n (fun k => f i k * (if k < c then f k c else 0))) := by
      rw [← fsum_add, ← fsum_add]
      exact fsum_congr fun k _ => by rw [F.mul_add, F.mul_add]
    rw [e1, h i hi]
    have e2 : fsum n (fun k => f i k * (if k = c then 1 else 0)) = f i c := by
      rw [fsum_one c hcn _ (fun k _ hk => by rw [if_neg hk, F.mul_zero]), if_pos rfl, F.mul_one]
    have e3 : fsum n (fun k => f i k * (if k < c then f k c else 0)) = f i c := by
      rcases Nat.lt_or_ge i c with hic | hic
      · rw [fsum_one i (by omega) _ (fun k _ hk => by
          by_cases hkc : k < c
          · rw [hu i hi k hkc, if_neg (fun e => hk e.symm), F.zero_mul]
          · rw [if_neg hkc, F.mul_zero]), if_pos hic, hu i hi i hic, if_pos rfl, F.one_mul]
      · rw [hz i hic hi]
        refine fsum_zero' fun k _ => ?_
        by_cases hkc : k < c
        · rw [hu i hi k hkc, if_neg (by omega), F.zero_mul]
        · rw [if_neg hkc, F.mul_zero]
    rw [e2, e3, F.add_self, F.add_zero]
  · simp only [if_pos, Nat.lt_irrefl, if_false] at e
    rw [F.add_zero] at e
    have e4 : (1 : F) = 0 := F.add_left_cancel (c := x c) (by rw [e, F.add_zero])
    exact F.zero_ne_one e4.symm
/-- All columns are the unit's: the solution stands in the right side, if nothing but noughts is left below. -/
theorem sol_done {R n : Nat} {f : Nat → Nat → F} (hu : Unit R n f) (_hn : n ≤ R) (hz : ∀ i, n ≤ i → i < R → f i n = 0) : Sol R n f (fun i => f i n) := fun i hi => by
  rcases Nat.lt_or_ge i n with hin | hin
  · rw [fsum_one i hin _ (fun k hk hne => by rw [hu i hi k hk, if_neg (fun e => hne e.symm), F.zero_mul]), hu i hi i hin, if_pos rfl, F.one_mul]
  · rw [hz i hin hi]
    exact fsum_zero' fun k hk => by rw [hu i hi k hk, if_neg (by omega), F.zero_mul]
theorem sol_none {R n i : Nat} {f : Nat → Nat → F} {x : Nat → F} (hu : Unit R n f) (hi : i < R) (hin : n ≤ i) (hne : f i n ≠ 0) : ¬ Sol R n f x := fun h => by
  refine hne ?_
  rw [← h i hi]
  exact fsum_zero' fun k hk => by rw [hu i hi k hk, if_neg (by omega), F.zero_mul]

/-- One number set. -/
def updF (f : Nat → Nat → F) (i k : Nat) (v : F) : Nat → Nat → F := fun i' k' => if i' = i ∧ k' = k then v else f i' k'
/-- In the midst of scaling row c. -/
def midS (f : Nat → Nat → F) (c : Nat) (v : F) (j : Nat) : Nat → Nat → F := fun i k => if i = c ∧ k < j then f i k * v else f i k
theorem midS_start (f : Nat → Nat → F) (c : Nat) (v : F) : midS f c v 0 = f := by funext i k; simp [midS]
theorem midS_next (f : Nat → Nat → F) (c : Nat) (v : F) (j : Nat) : updF (midS f c v j) c j (f c j * v) = midS f c v (j + 1) := by
  funext i k
  unfold updF midS
  by_cases h1 : i = c
  · subst h1
    by_cases h2 : k = j
    · subst h2; simp
    · by_cases h3 : k < j
      · rw [if_neg (fun h => h2 h.2), if_pos ⟨rfl, h3⟩, if_pos ⟨rfl, by omega⟩]
      · rw [if_neg (fun h => h2 h.2), if_neg (fun h => h3 h.2), if_neg (fun h => by omega)]
  · rw [if_neg (fun h => h1 h.1), if_neg (fun h => h1 h.1), if_neg (fun h => h1 h.1)]
theorem midS_here (f : Nat → Nat → F) (c : Nat) (v : F) (j : Nat) : midS f c v j c j = f c j := by simp [midS]
theorem midS_done (f : Nat → Nat → F) (c : Nat) (v : F) (n i k : Nat) (hk : k ≤ n) : midS f c v (n + 1) i k = scaleF f c v i k := by
  unfold midS scaleF
  by_cases h1 : i = c
  · rw [if_pos ⟨h1, by omega⟩, if_pos h1]
  · rw [if_neg (fun h => h1 h.1), if_neg h1]
/-- In the midst of clearing column c: row i, column j come next. -/
def midE (f : Nat → Nat → F) (c i j : Nat) : Nat → Nat → F := fun i' k => if i' < i ∨ (i' = i ∧ k < j) then elimF f c i' k else f i' k
theorem midE_start (f : Nat → Nat → F) (c : Nat) : midE f c 0 0 = f := by funext i k; simp [midE]
theorem midE_next (f : Nat → Nat → F) (c i j : Nat) : updF (midE f c i j) i j (elimF f c i j) = midE f c i (j + 1) := by
  funext i' k
  unfold updF midE
  by_cases h1 : i' = i
  · subst h1
    by_cases h2 : k = j
    · subst h2; simp
    · by_cases h3 : k < j
      · rw [if_neg (fun h => h2 h.2), if_pos (.inr ⟨rfl, h3⟩), if_pos (.inr ⟨rfl, by omega⟩)]
      · rw [if_neg (fun h => h2 h.2), if_neg (fun h => by omega), if_neg (fun h => by omega)]
  · by_cases h4 : i' < i
    · rw [if_neg (fun h => h1 h.1), if_pos (.inl h4), if_pos (.inl h4)]
    · rw [if_neg (fun h => h1 h.1), if_neg (fun h => by omega), if_neg (fun h => by omega)]
theorem midE_here (f : Nat → Nat → F) (c i j : Nat) : midE f c i j i j = f i j := by simp [midE]
theorem midE_row (f : Nat → Nat → F) (c i j k : Nat) : midE f c i j c k = f c k := by simp [midE, elimF]
/-- A row at its end; and one that needs none. -/
theorem midE_end (f : Nat → Nat → F) (c i n i' k : Nat) (hk : k ≤ n) : midE f c i (n + 1) i' k = midE f c (i + 1) 0 i' k := by
  unfold midE
  by_cases h : i' < i ∨ i' = i
  · rw [if_pos (by omega), if_pos (by omega)]
  · rw [if_neg (by omega), if_neg (by omega)]
theorem midE_skip (f : Nat → Nat → F) (c i i' k : Nat) (h : i = c ∨ f i c = 0) : midE f c i 0 i' k = midE f c (i + 1) 0 i' k := by
  unfold midE
  by_cases h1 : i' < i
  · rw [if_pos (.inl h1), if_pos (by omega)]
  · by_cases h2 : i' = i
    · subst h2
      rw [if_neg (by omega), if_pos (by omega)]
      unfold elimF
      by_cases h3 : i' = c
      · rw [if_pos h3]
      · rw [if_neg h3]
        rcases h with h | h
        · exact absurd h h3
        · rw [h, F.zero_mul, F.add_zero]
    · rw [if_neg (by omega), if_neg (by omega)]
theorem midE_done (f : Nat → Nat → F) (c R i k : Nat) (hi : i < R) : midE f c R 0 i k = elimF f c i k := by
  unfold midE
  rw [if_pos (.inl hi)]
end Go.Proofs.Ytbahelhhkmonmaa
