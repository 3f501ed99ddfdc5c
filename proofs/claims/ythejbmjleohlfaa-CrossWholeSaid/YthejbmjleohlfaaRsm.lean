/- Words over the field, as plain mathematics: values, the product of roots, what is left of a division, and that a word with few symbols whose values are 0 is 0. -/
import Derived.Test.YthejbmjleohlfaaGf
namespace Go.Proofs.Ythejbmjleohlfaa

/-- The list of n values of a function. -/
def tab (n : Nat) (f : Nat → F) : List F := (List.range n).map f
theorem tab_length (n : Nat) (f : Nat → F) : (tab n f).length = n := by simp [tab]
theorem tab_getD (n : Nat) (f : Nat → F) (j : Nat) (hj : j < n) : (tab n f).getD j 0 = f j := by
  simp [tab, List.getD, hj]
theorem tab_ext {l : List F} {n : Nat} {f : Nat → F} (hl : l.length = n) (h : ∀ j, j < n → l.getD j 0 = f j) : l = tab n f := by
  apply List.ext_getElem (by rw [hl, tab_length])
  intro j h1 h2
  have := h j (by omega)
  rw [List.getD, List.getElem?_eq_getElem h1] at this
  simp only [Option.getD_some] at this
  rw [this]; simp [tab]
theorem tab_self (l : List F) : l = tab l.length (fun j => l.getD j 0) := tab_ext rfl fun _ _ => rfl
theorem tab_congr {n : Nat} {f g : Nat → F} (h : ∀ j, j < n → f j = g j) : tab n f = tab n g := tab_ext (tab_length n f) fun j hj => by rw [tab_getD n f j hj, h j hj]

/-- A word's value at a number, the highest coefficient first. -/
def hv (l : List F) (x : F) : F := l.foldl (fun v c => v * x + c) 0
theorem hv_nil (x : F) : hv [] x = 0 := rfl
theorem hv_snoc (l : List F) (c x : F) : hv (l ++ [c]) x = hv l x * x + c := by simp [hv, List.foldl_append]
theorem hv_append (l m : List F) (x : F) : hv (l ++ m) x = hv l x * F.pow x m.length + hv m x := by
  rcases m.eq_nil_or_concat with h | ⟨m', c, h⟩
  · subst h; simp [F.pow_zero, hv_nil, F.add_zero, F.mul_one]
  · subst h
    have ih := hv_append l m' x
    rw [List.concat_eq_append, ← List.append_assoc, hv_snoc, hv_snoc, ih, List.length_append, List.length_singleton, F.pow_succ, F.add_mul]
    ac_rfl
termination_by m.length
decreasing_by rw [h]; simp
theorem hv_single (c x : F) : hv [c] x = c := by
  show 0 * x + c = c
  rw [F.zero_mul, F.zero_add]
theorem hv_cons (c : F) (l : List F) (x : F) : hv (c :: l) x = c * F.pow x l.length + hv l x := by
  have := hv_append [c] l x
  rw [hv_single] at this
  exact this
theorem hv_zero_cons (l : List F) (x : F) : hv (0 :: l) x = hv l x := by rw [hv_cons, F.zero_mul, F.zero_add]
theorem hv_zeros (n : Nat) (x : F) : hv (List.replicate n 0) x = 0 := by
  induction n with
  | zero => rfl
  | succ n ih => rw [List.replicate_succ, hv_zero_cons, ih]
theorem hv_zeros_append (n : Nat) (l : List F) (x : F) : hv (List.replicate n 0 ++ l) x = hv l x := by
  rw [hv_append, hv_zeros, F.zero_mul, F.zero_add]
theorem hv_sum (l : List F) (x : F) : hv l x = fsum l.length (fun i => l.getD i 0 * F.pow x (l.length - 1 - i)) := by
  induction l with
  | nil => rfl
  | cons c l ih =>
    rw [hv_cons, List.length_cons, fsum_head, ih]
    congr 1
    refine fsum_congr fun i hi => ?_
    show _ = (l.getD i 0) * _
    congr 2; omega
theorem hv_tab (n : Nat) (f : Nat → F) (x : F) : hv (tab n f) x = fsum n (fun i => f i * F.pow x (n - 1 - i)) := by
  rw [hv_sum, tab_length]
  exact fsum_congr fun i hi => by rw [tab_getD n f i hi]
theorem hv_tab_add (n : Nat) (f g : Nat → F) (x : F) : hv (tab n (fun i => f i + g i)) x = hv (tab n f) x + hv (tab n g) x := by
  rw [hv_tab, hv_tab, hv_tab, ← fsum_add]
  exact fsum_congr fun i _ => F.add_mul _ _ _
theorem hv_tab_mul (n : Nat) (f : Nat → F) (a x : F) : hv (tab n (fun i => f i * a)) x = hv (tab n f) x * a := by
  rw [hv_tab, hv_tab, fsum_mul]
  exact fsum_congr fun i _ => by ac_rfl

/-- A polynomial times (z - p), the highest coefficient first. -/
def mulRoot (g : List F) (p : F) : List F := tab (g.length + 1) (fun i => g.getD i 0 + (if i = 0 then 0 else g.getD (i - 1) 0 * p))
theorem mulRoot_length (g : List F) (p : F) : (mulRoot g p).length = g.length + 1 := tab_length _ _
theorem tab_append_zero (g : List F) : tab (g.length + 1) (fun i => g.getD i 0) = g ++ [0] := by
  refine (tab_ext (by simp) fun j hj => ?_).symm
  by_cases h : j < g.length
  · simp [List.getD, List.getElem?_append_left h]
  · obtain rfl : j = g.length := by omega
    simp [List.getD]
theorem hv_mulRoot (g : List F) (p x : F) : hv (mulRoot g p) x = hv g x * (x + p) := by
  unfold mulRoot
  rw [hv_tab_add, tab_append_zero, hv_snoc, F.add_zero, F.mul_add]
  congr 1
  have : tab (g.length + 1) (fun i => if i = 0 then 0 else g.getD (i - 1) 0 * p) = 0 :: tab g.length (fun i => g.getD i 0 * p) := by
    refine (tab_ext (by simp [tab_length]) fun j hj => ?_).symm
    cases j with
    | zero => rfl
    | succ j =>
      show (tab g.length (fun i => g.getD i 0 * p)).getD j 0 = _
      rw [tab_getD _ _ _ (by omega), if_neg (by omega)]; rfl
  rw [this, hv_zero_cons, hv_tab_mul, ← tab_self]

/-- The product of z less each of the first r powers of x. -/
def baseL : Nat → List F
  | 0 => [1]
  | r + 1 => mulRoot (baseL r) (F.px r)
theorem baseL_length (r : Nat) : (baseL r).length = r + 1 := by
  induction r with
  | zero => rfl
  | succ r ih => rw [baseL, mulRoot_length, ih]
theorem baseL_head (r : Nat) : (baseL r).getD 0 0 = 1 := by
  induction r with
  | zero => rfl
  | succ r ih =>
    rw [baseL, mulRoot, tab_getD _ _ _ (by omega), ih, if_pos rfl, F.add_zero]
theorem baseL_root (r j : Nat) (h : j < r) : hv (baseL r) (F.px j) = 0 := by
  induction r with
  | zero => omega
  | succ r ih =>
    rw [baseL, hv_mulRoot]
    by_cases e : j = r
    · subst e; rw [F.add_self, F.mul_zero]
    · rw [ih (by omega), F.zero_mul]

/-- The word, and a multiple of another one from its begin on. -/
def axpy (rest g : List F) (c : F) : List F := tab rest.length (fun i => rest.getD i 0 + c * g.getD i 0)
theorem axpy_length (rest g : List F) (c : F) : (axpy rest g c).length = rest.length := tab_length _ _
theorem getD_beyond {g : List F} {i : Nat} (h : g.length ≤ i) : g.getD i 0 = 0 := by simp [List.getD, List.getElem?_eq_none h]
theorem tab_longer (g : List F) (n : Nat) (h : g.length ≤ n) : tab n (fun i => g.getD i 0) = g ++ List.replicate (n - g.length) 0 := by
  refine (tab_ext (by simp; omega) fun j hj => ?_).symm
  by_cases h2 : j < g.length
  · simp [List.getD, List.getElem?_append_left h2]
  · rw [getD_beyond (g := g) (by omega)]
    simp only [List.getD, List.getElem?_append_right (Nat.le_of_not_lt h2), List.getElem?_replicate]
    split <;> rfl
theorem hv_axpy (rest g : List F) (c x : F) (h : g.length ≤ rest.length) : hv (axpy rest g c) x = hv rest x + c * (hv g x * F.pow x (rest.length - g.length)) := by
  unfold axpy
  rw [hv_tab_add, ← tab_self]
  congr 1
  have : (fun i => c * g.getD i 0) = (fun i => g.getD i 0 * c) := funext fun i => F.mul_comm _ _
  rw [this, hv_tab_mul, tab_longer g _ h, hv_append, hv_zeros, F.add_zero, List.length_replicate, F.mul_comm]

/-- One step of the division: the first symbol taken off. -/
def divStep (g rest : List F) : List F := (axpy rest g (rest.getD 0 0)).tail
def divN (g : List F) : Nat → List F → List F
  | 0, rest => rest
  | k + 1, rest => divStep g (divN g k rest)
theorem divStep_length (g rest : List F) : (divStep g rest).length = rest.length - 1 := by rw [divStep, List.length_tail, axpy_length]
theorem divN_length (g rest : List F) (k : Nat) : (divN g k rest).length = rest.length - k := by
  induction k with
  | zero => rfl
  | succ k ih => rw [divN, divStep_length, ih]; omega
theorem hv_tail (l : List F) (x : F) (h : l.getD 0 0 = 0) : hv l.tail x = hv l x := by
  cases l with
  | nil => rfl
  | cons c l =>
    have h : c = 0 := h
    subst h
    exact (hv_zero_cons l x).symm
theorem hv_divStep (r : Nat) (rest : List F) (hl : r + 1 ≤ rest.length) (j : Nat) (hj : j < r) : hv (divStep (baseL r) rest) (F.px j) = hv rest (F.px j) := by
  unfold divStep
  rw [hv_tail, hv_axpy _ _ _ _ (by rw [baseL_length]; exact hl), baseL_root r j hj, F.zero_mul, F.mul_zero, F.add_zero]
  rw [axpy, tab_getD _ _ _ (by omega), baseL_head, F.mul_one, F.add_self]
theorem hv_divN (r : Nat) (rest : List F) (k : Nat) (hl : r + k ≤ rest.length) (j : Nat) (hj : j < r) : hv (divN (baseL r) k rest) (F.px j) = hv rest (F.px j) := by
  induction k with
  | zero => rfl
  | succ k ih =>
    rw [divN, hv_divStep r _ (by rw [divN_length]; omega) j hj, ih (by omega)]

/-- The checks of data. -/
def checkL (data : List F) (r : Nat) : List F := divN (baseL r) data.length (data ++ List.replicate r 0)
theorem checkL_length (data : List F) (r : Nat) : (checkL data r).length = r := by
  rw [checkL, divN_length, List.length_append, List.length_replicate]; omega
theorem hv_checkL (data : List F) (r j : Nat) (hj : j < r) : hv (checkL data r) (F.px j) = hv (data ++ List.replicate r 0) (F.px j) :=
  hv_divN r _ _ (by rw [List.length_append, List.length_replicate]; omega) j hj
theorem hv_word (data : List F) (r j : Nat) (hj : j < r) : hv (data ++ checkL data r) (F.px j) = 0 := by
  rw [hv_append, hv_checkL data r j hj, hv_append, hv_zeros, F.add_zero, checkL_length, List.length_replicate, F.add_self]

/-- Is each of these values 0? -/
def Nought (w : List F) (r : Nat) : Prop := ∀ j, j < r → hv w (F.px j) = 0

theorem px_pow_swap (i j : Nat) : F.pow (F.px i) j = F.pow (F.px j) i := by rw [← F.px_mul, ← F.px_mul, Nat.mul_comm]

/-- All values of a polynomial at the places, times the symbols, come to 0. -/
theorem nought_poly {w q : List F} {r : Nat} (h : Nought w r) (hq : q.length ≤ r) :
    fsum w.length (fun i => w.getD i 0 * hv q (F.px (w.length - 1 - i))) = 0 := by
  have e : ∀ i, i < w.length → w.getD i 0 * hv q (F.px (w.length - 1 - i)) = fsum q.length (fun k => w.getD i 0 * (q.getD k 0 * F.pow (F.px (w.length - 1 - i)) (q.length - 1 - k))) := fun i _ => by rw [hv_sum q, mul_fsum]
  rw [fsum_congr e, fsum_swap]
  refine fsum_zero' fun k hk => ?_
  have e2 : ∀ i, i < w.length → w.getD i 0 * (q.getD k 0 * F.pow (F.px (w.length - 1 - i)) (q.length - 1 - k)) = w.getD i 0 * F.pow (F.px (q.length - 1 - k)) (w.length - 1 - i) * q.getD k 0 := fun i _ => by
    rw [px_pow_swap]; ac_rfl
  rw [fsum_congr e2, ← fsum_mul, ← hv_sum, h _ (by omega), F.zero_mul]

/-- The polynomial that is 0 at these points. -/
def vanish (ps : List F) : List F := ps.foldl mulRoot [1]
theorem vanish_length (ps : List F) : ∀ g : List F, (ps.foldl mulRoot g).length = g.length + ps.length := by
  induction ps with
  | nil => intro g; rfl
  | cons p ps ih => intro g; rw [List.foldl_cons, ih, mulRoot_length, List.length_cons]; omega
theorem vanish_zero (ps : List F) (x : F) : ∀ g : List F, hv g x = 0 ∨ x ∈ ps → hv (ps.foldl mulRoot g) x = 0 := by
  induction ps with
  | nil => intro g h; rcases h with h | h; · exact h
           · simp at h
  | cons p ps ih =>
    intro g h
    rw [List.foldl_cons]
    refine ih _ ?_
    rcases h with h | h
    · left; rw [hv_mulRoot, h, F.zero_mul]
    · rcases List.mem_cons.1 h with h | h
      · left; rw [hv_mulRoot, h, F.add_self, F.mul_zero]
      · exact .inr h
theorem vanish_ne (ps : List F) (x : F) : ∀ g : List F, hv g x ≠ 0 → x ∉ ps → hv (ps.foldl mulRoot g) x ≠ 0 := by
  induction ps with
  | nil => intro g h _; exact h
  | cons p ps ih =>
    intro g h hx
    rw [List.foldl_cons]
    simp only [List.mem_cons, not_or] at hx
    refine ih _ ?_ hx.2
    rw [hv_mulRoot]
    exact F.mul_ne_zero h fun e => hx.1 (F.add_eq_zero.1 e)

/-- The places of a word whose symbol is not 0. -/
def places (w : List F) : List Nat := (List.range w.length).filter (fun i => decide (w.getD i 0 ≠ 0))

/-- THE BOUND: a word whose first r values are 0, and that has at most r symbols that are not 0, has none. -/
theorem nought_few {w : List F} {r : Nat} (h : Nought w r) (hn : w.length ≤ 65535) (hf : (places w).length ≤ r) : ∀ i, w.getD i 0 = 0 := by
  intro i0
  by_cases hi : i0 < w.length
  · by_cases hz : w.getD i0 0 = 0
    · exact hz
    · exfalso
      have hmem : i0 ∈ places w := by unfold places; simp only [List.mem_filter, List.mem_range, decide_eq_true_eq]; exact ⟨hi, hz⟩
      let ps := ((places w).erase i0).map (fun i => F.px (w.length - 1 - i))
      have hlen : (vanish ps).length ≤ r := by
        unfold vanish
        rw [vanish_length]
        show 1 + ps.length ≤ r
        have : ps.length = (places w).length - 1 := by simp only [ps, List.length_map, List.length_erase_of_mem hmem]
        have hp : 0 < (places w).length := List.length_pos_of_mem hmem
        omega
      have hs := nought_poly h hlen
      have hnd : (places w).Nodup := List.Pairwise.filter _ List.nodup_range
      rw [fsum_one i0 hi _ (fun i hi' hne => by
        by_cases hzi : w.getD i 0 = 0
        · rw [hzi, F.zero_mul]
        · have hmi : i ∈ places w := by unfold places; simp only [List.mem_filter, List.mem_range, decide_eq_true_eq]; exact ⟨hi', hzi⟩
          have : F.px (w.length - 1 - i) ∈ ps := List.mem_map.2 ⟨i, (List.mem_erase_of_ne hne).2 hmi, rfl⟩
          unfold vanish
          rw [vanish_zero ps _ [1] (.inr this), F.mul_zero])] at hs
      refine F.mul_ne_zero hz ?_ hs
      refine vanish_ne ps _ [1] (by rw [hv_single]; exact fun e => F.zero_ne_one e.symm) fun hm => ?_
      obtain ⟨i, hi2, he⟩ := List.mem_map.1 hm
      have hi3 := List.mem_of_mem_erase hi2
      have hne : i ≠ i0 := fun e => by subst e; exact (List.Nodup.not_mem_erase hnd) hi2
      unfold places at hi3
      simp only [List.mem_filter, List.mem_range] at hi3
      have := F.px_inj (by omega) (by omega) he
      omega
  · exact getD_beyond (by omega)

/-- Two lists of at most 65535 symbols whose values at as many powers are the same are the same. -/
theorem hv_unique {c d : List F} (hl : c.length = d.length) (hn : c.length ≤ 65535) (h : ∀ j, j < c.length → hv c (F.px j) = hv d (F.px j)) : c = d := by
  have e : ∀ x, hv (tab c.length (fun i => c.getD i 0 + d.getD i 0)) x = hv c x + hv d x := fun x => by
    rw [hv_tab_add, ← tab_self, hl, ← tab_self]
  have hz := nought_few (w := tab c.length (fun i => c.getD i 0 + d.getD i 0)) (r := c.length) (fun j hj => by rw [e, h j hj, F.add_self]) (by rw [tab_length]; exact hn)
    (by unfold places; rw [tab_length]; exact Nat.le_trans (List.length_filter_le _ _) (by simp))
  rw [tab_self c, tab_self d, ← hl]
  refine tab_congr fun j hj => ?_
  have := hz j
  rw [tab_getD _ _ _ hj] at this
  exact F.add_eq_zero.1 this

/-- What makes the data's word right are their checks. -/
theorem checkL_unique {data c : List F} {r : Nat} (hc : c.length = r) (hr : r ≤ 65535) (h : ∀ j, j < r → hv (data ++ c) (F.px j) = 0) : c = checkL data r := by
  refine hv_unique (by rw [hc, checkL_length]) (by omega) fun j hj => ?_
  have h1 := h j (by omega)
  have h2 := hv_word data r j (by omega)
  rw [hv_append, F.add_eq_zero] at h1 h2
  rw [← h1, ← h2, hc, checkL_length]
end Go.Proofs.Ythejbmjleohlfaa
