/- Polynomials over the field as plain mathematics: values, shortening, products, division, slopes, roots. The coefficient of the power i stands at the place i. -/
import Derived.Test.YthejbmjleohlfaaRsm
namespace Go.Proofs.Ythejbmjleohlfaa

/-- The value of a polynomial. -/
def pv : List F → F → F
  | [], _ => 0
  | c :: l, x => pv l x * x + c
theorem pv_hv (l : List F) (x : F) : pv l x = hv l.reverse x := by
  induction l with
  | nil => rfl
  | cons c l ih => rw [List.reverse_cons, hv_snoc, ← ih]; rfl
theorem pv_append (l m : List F) (x : F) : pv (l ++ m) x = pv l x + F.pow x l.length * pv m x := by
  induction l with
  | nil => rw [List.nil_append, List.length_nil, F.pow_zero, F.one_mul]; exact (F.zero_add _).symm
  | cons c l ih =>
    rw [List.cons_append, pv, pv, ih, F.add_mul, List.length_cons, F.pow_succ]
    rw [F.mul_assoc, F.mul_comm (pv m x) x, ← F.mul_assoc, F.add_assoc, F.add_assoc, F.add_comm c]
theorem pv_snoc (l : List F) (c x : F) : pv (l ++ [c]) x = pv l x + F.pow x l.length * c := by
  rw [pv_append, pv, pv, F.zero_mul, F.zero_add]
theorem pv_zeros (n : Nat) (x : F) : pv (List.replicate n 0) x = 0 := by
  induction n with
  | zero => rfl
  | succ n ih => rw [List.replicate_succ, pv, ih, F.zero_mul, F.add_zero]
theorem pv_sum (l : List F) (x : F) : pv l x = fsum l.length (fun i => l.getD i 0 * F.pow x i) := by
  induction l with
  | nil => rfl
  | cons c l ih =>
    rw [pv, ih, List.length_cons, fsum_head, fsum_mul, F.add_comm]
    congr 1
    · simp [F.pow_zero, F.mul_one]
    · refine fsum_congr fun i _ => ?_
      rw [F.mul_assoc, ← F.pow_succ]
      rfl
theorem pv_tab (n : Nat) (f : Nat → F) (x : F) : pv (tab n f) x = fsum n (fun i => f i * F.pow x i) := by
  rw [pv_sum, tab_length]
  exact fsum_congr fun i hi => by rw [tab_getD _ _ _ hi]
theorem pv_longer (l : List F) (n : Nat) (h : l.length ≤ n) (x : F) : pv (tab n (fun i => l.getD i 0)) x = pv l x := by
  rw [tab_longer l n h, pv_append, pv_zeros, F.mul_zero, F.add_zero]
theorem pv_single (c x : F) : pv [c] x = c := by rw [pv, pv, F.zero_mul, F.zero_add]
theorem pv_zero_cons (l : List F) (x : F) : pv (0 :: l) x = x * pv l x := by rw [pv, F.add_zero, F.mul_comm]

/-- Nought is not the last one. -/
def IsShort (l : List F) : Prop := 0 < l.length → l.getD (l.length - 1) 0 ≠ 0
theorem isShort_nil : IsShort [] := fun h => absurd h (by simp)
theorem short_unique {a b : List F} (ha : IsShort a) (hb : IsShort b) (h : ∀ j, a.getD j 0 = b.getD j 0) : a = b := by
  have key : ∀ {a b : List F}, IsShort b → (∀ j, a.getD j 0 = b.getD j 0) → b.length ≤ a.length := fun {a b} hb h => by
    rcases Nat.lt_or_ge a.length b.length with hlt | hge
    · exfalso
      refine hb (by omega) ?_
      rw [← h, getD_beyond (by omega)]
    · exact hge
  have hl : a.length = b.length := Nat.le_antisymm (key ha fun j => (h j).symm) (key hb h)
  have e1 := tab_self a
  rw [e1, hl]
  exact (tab_ext rfl fun j _ => (h j).symm).symm
/-- Without the noughts at the end. -/
def shortL : List F → List F
  | [] => []
  | c :: l => match shortL l with
    | [] => if c = 0 then [] else [c]
    | d :: m => c :: d :: m
theorem shortL_cons (c : F) (l : List F) : (shortL l = [] ∧ c = 0 ∧ shortL (c :: l) = []) ∨ (shortL l = [] ∧ c ≠ 0 ∧ shortL (c :: l) = [c]) ∨ (0 < (shortL l).length ∧ shortL (c :: l) = c :: shortL l) := by
  rw [shortL]
  cases h : shortL l with
  | nil =>
    by_cases hc : c = 0
    · exact .inl ⟨rfl, hc, by rw [if_pos hc]⟩
    · exact .inr (.inl ⟨rfl, hc, by rw [if_neg hc]⟩)
  | cons d m => exact .inr (.inr ⟨by simp, rfl⟩)
theorem shortL_short (l : List F) : IsShort (shortL l) := by
  induction l with
  | nil => exact isShort_nil
  | cons c l ih =>
    rcases shortL_cons c l with ⟨_, _, e⟩ | ⟨_, hc, e⟩ | ⟨hl, e⟩
    · rw [e]; exact isShort_nil
    · rw [e]; exact fun _ => hc
    · rw [e]
      intro _
      have := ih hl
      rw [List.length_cons, Nat.add_sub_cancel]
      obtain ⟨k, hk⟩ : ∃ k, (shortL l).length = k + 1 := ⟨(shortL l).length - 1, by omega⟩
      rw [hk] at this ⊢
      exact this
theorem shortL_getD (l : List F) : ∀ j, (shortL l).getD j 0 = l.getD j 0 := by
  induction l with
  | nil => intro j; rfl
  | cons c l ih =>
    intro j
    rcases shortL_cons c l with ⟨h0, hc, e⟩ | ⟨h0, hc, e⟩ | ⟨hl, e⟩
    · rw [e]
      rw [h0] at ih
      cases j with
      | zero => exact hc.symm
      | succ j => exact ih j
    · rw [e]
      rw [h0] at ih
      cases j with
      | zero => rfl
      | succ j => exact ih j
    · rw [e]
      cases j with
      | zero => rfl
      | succ j => exact ih j
theorem shortL_eq {m l : List F} (hm : IsShort m) (h : ∀ j, m.getD j 0 = l.getD j 0) : m = shortL l := short_unique hm (shortL_short l) fun j => by rw [h, shortL_getD]
theorem shortL_same {a b : List F} (h : ∀ j, a.getD j 0 = b.getD j 0) : shortL a = shortL b := short_unique (shortL_short a) (shortL_short b) fun j => by rw [shortL_getD, shortL_getD, h]
theorem shortL_length (l : List F) : (shortL l).length ≤ l.length := by
  induction l with
  | nil => exact Nat.le_refl _
  | cons c l ih =>
    rcases shortL_cons c l with ⟨_, _, e⟩ | ⟨_, _, e⟩ | ⟨_, e⟩
    · rw [e]; simp
    · rw [e]; simp
    · rw [e]; simp; exact ih
theorem shortL_id {l : List F} (h : IsShort l) : shortL l = l := (shortL_eq h fun _ => rfl).symm
theorem shortL_shortL (l : List F) : shortL (shortL l) = shortL l := shortL_id (shortL_short l)
theorem pv_same {a b : List F} (h : ∀ j, a.getD j 0 = b.getD j 0) (x : F) : pv a x = pv b x := by
  rw [← pv_longer a (max a.length b.length) (by omega) x, ← pv_longer b (max a.length b.length) (by omega) x]
  simp only [h]
theorem pv_short (l : List F) (x : F) : pv (shortL l) x = pv l x := pv_same (shortL_getD l) x
theorem getD_take (l : List F) (k j : Nat) : (l.take k).getD j 0 = if j < k then l.getD j 0 else 0 := by
  simp only [List.getD, List.getElem?_take]
  split <;> rfl
/-- What the loop of shortening comes to. -/
theorem shortL_take {l : List F} {k : Nat} (hk : k ≤ l.length) (h0 : ∀ j, k ≤ j → l.getD j 0 = 0) (h1 : 0 < k → l.getD (k - 1) 0 ≠ 0) : l.take k = shortL l := by
  refine shortL_eq (fun h => ?_) fun j => ?_
  · rw [List.length_take, Nat.min_eq_left hk] at h ⊢
    rw [getD_take, if_pos (by omega)]
    exact h1 h
  · rw [getD_take]
    split
    · rfl
    · rw [h0 j (by omega)]

/-- Polynomials with the same values have the same coefficients. -/
theorem pv_ext {a b : List F} (ha : a.length ≤ 65535) (hb : b.length ≤ 65535) (h : ∀ x, pv a x = pv b x) : ∀ j, a.getD j 0 = b.getD j 0 := by
  have n1 : a.length ≤ max a.length b.length := by omega
  have n2 : b.length ≤ max a.length b.length := by omega
  have n3 : max a.length b.length ≤ 65535 := by omega
  generalize max a.length b.length = n at n1 n2 n3
  have e : (tab n (fun i => a.getD i 0)).reverse = (tab n (fun i => b.getD i 0)).reverse := by
    refine hv_unique (by simp [tab_length]) (by simp [tab_length]; omega) fun j _ => ?_
    rw [← pv_hv, ← pv_hv, pv_longer a n n1, pv_longer b n n2, h]
  have e := List.reverse_inj.1 e
  intro j
  rcases Nat.lt_or_ge j n with hj | hj
  · rw [← tab_getD n (fun i => a.getD i 0) j hj, e, tab_getD n _ j hj]
  · rw [getD_beyond (by omega), getD_beyond (by omega)]
theorem pv_unique {a b : List F} (sa : IsShort a) (sb : IsShort b) (ha : a.length ≤ 65535) (hb : b.length ≤ 65535) (h : ∀ x, pv a x = pv b x) : a = b := short_unique sa sb (pv_ext ha hb h)
theorem pv_shortL {a b : List F} (ha : a.length ≤ 65535) (hb : b.length ≤ 65535) (h : ∀ x, pv a x = pv b x) : shortL a = shortL b := shortL_same (pv_ext ha hb h)

/-- A sum, not shortened. -/
def addR (a b : List F) : List F := tab (max a.length b.length) (fun i => a.getD i 0 + b.getD i 0)
theorem pv_addR (a b : List F) (x : F) : pv (addR a b) x = pv a x + pv b x := by
  rw [addR, pv_tab, ← pv_longer a (max a.length b.length) (by omega) x, ← pv_longer b (max a.length b.length) (by omega) x, pv_tab, pv_tab, ← fsum_add]
  exact fsum_congr fun i _ => F.add_mul _ _ _
theorem addR_length (a b : List F) : (addR a b).length = max a.length b.length := tab_length _ _
theorem addR_getD (a b : List F) (j : Nat) : (addR a b).getD j 0 = a.getD j 0 + b.getD j 0 := by
  rcases Nat.lt_or_ge j (max a.length b.length) with h | h
  · exact tab_getD _ _ _ h
  · rw [getD_beyond (by rw [addR_length]; exact h), getD_beyond (by omega), getD_beyond (by omega), F.add_zero]
/-- A sum. -/
def addL (a b : List F) : List F := shortL (addR a b)
theorem addL_comm (a b : List F) : addL a b = addL b a := shortL_same fun j => by rw [addR_getD, addR_getD, F.add_comm]
theorem pv_addL (a b : List F) (x : F) : pv (addL a b) x = pv a x + pv b x := by rw [addL, pv_short, pv_addR]
theorem addL_length (a b : List F) : (addL a b).length ≤ max a.length b.length := Nat.le_trans (shortL_length _) (by rw [addR_length]; exact Nat.le_refl _)
theorem addL_getD (a b : List F) (j : Nat) : (addL a b).getD j 0 = a.getD j 0 + b.getD j 0 := by rw [addL, shortL_getD, addR_getD]

/-- A polynomial times a number. -/
def scaleL (c : F) (l : List F) : List F := l.map (fun a => a * c)
theorem scaleL_length (c : F) (l : List F) : (scaleL c l).length = l.length := by simp [scaleL]
theorem scaleL_getD (c : F) (l : List F) (j : Nat) : (scaleL c l).getD j 0 = l.getD j 0 * c := by
  simp only [scaleL, List.getD, List.getElem?_map]
  cases l[j]? with
  | none => exact (F.zero_mul c).symm
  | some a => rfl
theorem pv_scale (c : F) (l : List F) (x : F) : pv (scaleL c l) x = pv l x * c := by
  rw [pv_sum, pv_sum, scaleL_length, fsum_mul]
  refine fsum_congr fun i _ => ?_
  rw [scaleL_getD, F.mul_assoc, F.mul_assoc, F.mul_comm c]
/-- A product, not shortened. -/
def mulR : List F → List F → List F
  | [], _ => []
  | c :: l, b => addR (scaleL c b) (0 :: mulR l b)
theorem pv_mulR (a b : List F) (x : F) : pv (mulR a b) x = pv a x * pv b x := by
  induction a with
  | nil => exact (F.zero_mul _).symm
  | cons c l ih =>
    rw [mulR, pv_addR, pv_scale, pv_zero_cons, ih, pv, F.add_mul, F.add_comm]
    congr 1
    · rw [F.mul_comm (pv l x) x, F.mul_assoc]
    · exact F.mul_comm _ _
theorem mulR_length (a b : List F) (ha : 0 < a.length) (hb : 0 < b.length) : (mulR a b).length = a.length + b.length - 1 := by
  induction a with
  | nil => simp at ha
  | cons c l ih =>
    rw [mulR, addR_length, scaleL_length, List.length_cons, List.length_cons]
    cases l with
    | nil => simp [mulR]; omega
    | cons d l => rw [ih (by simp)]; simp; omega
theorem mulR_nil (a : List F) : ∀ j, (mulR a []).getD j 0 = 0 := by
  induction a with
  | nil => intro j; rfl
  | cons c l ih =>
    intro j
    rw [mulR, addR_getD]
    cases j with
    | zero => exact F.add_zero 0
    | succ j => show (0 : F) + (mulR l []).getD j 0 = 0; rw [ih, F.add_zero]
theorem mulR_le (a b : List F) : (mulR a b).length ≤ a.length + b.length := by
  induction a with
  | nil => simp [mulR]
  | cons c l ih => rw [mulR, addR_length, scaleL_length, List.length_cons, List.length_cons]; omega
theorem mulR_top (a b : List F) (ha : 0 < a.length) (hb : 0 < b.length) : (mulR a b).getD (a.length + b.length - 2) 0 = a.getD (a.length - 1) 0 * b.getD (b.length - 1) 0 := by
  induction a with
  | nil => simp at ha
  | cons c l ih =>
    rw [mulR, addR_getD, scaleL_getD]
    cases l with
    | nil =>
      have e : [c].length + b.length - 2 = b.length - 1 := by simp; omega
      rw [e]
      have e2 : (0 :: mulR [] b).getD (b.length - 1) 0 = (0 : F) := by
        cases b.length - 1 with
        | zero => rfl
        | succ j => rfl
      rw [e2, F.add_zero]
      exact F.mul_comm _ _
    | cons d l =>
      rw [getD_beyond (g := b) (by simp; omega), F.zero_mul, F.zero_add]
      have h := ih (by simp)
      have e : (c :: d :: l).length + b.length - 2 = (d :: l).length + b.length - 2 + 1 := by simp; omega
      rw [e]
      show (mulR (d :: l) b).getD _ 0 = _
      rw [h]
      rfl
/-- A product. -/
def mulL (a b : List F) : List F := shortL (mulR a b)
theorem pv_mulL (a b : List F) (x : F) : pv (mulL a b) x = pv a x * pv b x := by rw [mulL, pv_short, pv_mulR]
theorem mulL_length (a b : List F) : (mulL a b).length ≤ a.length + b.length := Nat.le_trans (shortL_length _) (mulR_le a b)
theorem mulL_length' (a b : List F) (ha : 0 < a.length) (hb : 0 < b.length) : (mulL a b).length ≤ a.length + b.length - 1 := Nat.le_trans (shortL_length _) (Nat.le_of_eq (mulR_length a b ha hb))
theorem mulL_short (a b : List F) : IsShort (mulL a b) := shortL_short _
theorem addL_short (a b : List F) : IsShort (addL a b) := shortL_short _
theorem mulL_eq {a b c : List F} (hl : a.length + b.length ≤ 65535) (hc : c.length ≤ 65535) (h : ∀ x, pv c x = pv a x * pv b x) : shortL c = mulL a b := pv_shortL hc (Nat.le_trans (mulR_le a b) hl) fun x => by rw [h, pv_mulR]
theorem mulL_nil (a : List F) : mulL a [] = [] := (shortL_eq isShort_nil fun j => by rw [mulR_nil]; rfl).symm
theorem nil_mulL (b : List F) : mulL [] b = [] := rfl
theorem mulR_short {a b : List F} (ha : IsShort a) (hb : IsShort b) (ha0 : 0 < a.length) (hb0 : 0 < b.length) : IsShort (mulR a b) := fun _ => by
  rw [mulR_length a b ha0 hb0, show a.length + b.length - 1 - 1 = a.length + b.length - 2 from by omega, mulR_top a b ha0 hb0]
  exact F.mul_ne_zero (ha ha0) (hb hb0)
/-- The degree of a product. -/
theorem mulL_degree {a b : List F} (ha : IsShort a) (hb : IsShort b) (ha0 : 0 < a.length) (hb0 : 0 < b.length) : (mulL a b).length = a.length + b.length - 1 := by
  rw [mulL, shortL_id (mulR_short ha hb ha0 hb0), mulR_length a b ha0 hb0]

/-- Added at a place: a polynomial times a number, times a power of z. -/
def addAt (to p : List F) (at' : Nat) (y : F) : List F := tab to.length (fun k => to.getD k 0 + (if at' ≤ k then p.getD (k - at') 0 * y else 0))
theorem addAt_length (to p : List F) (k : Nat) (y : F) : (addAt to p k y).length = to.length := tab_length _ _
theorem fsum_more {n m : Nat} (h : n ≤ m) (f : Nat → F) (h0 : ∀ i, n ≤ i → i < m → f i = 0) : fsum m f = fsum n f := by
  obtain ⟨k, rfl⟩ : ∃ k, m = n + k := ⟨m - n, by omega⟩
  rw [fsum_split, fsum_zero' (n := k) fun i hi => h0 _ (by omega) (by omega), F.add_zero]
theorem pv_addAt (to p : List F) (k : Nat) (y x : F) (h : k + p.length ≤ to.length) : pv (addAt to p k y) x = pv to x + F.pow x k * (pv p x * y) := by
  rw [addAt, pv_tab, pv_sum to]
  have e : fsum to.length (fun i => (to.getD i 0 + (if k ≤ i then p.getD (i - k) 0 * y else 0)) * F.pow x i) = fsum to.length (fun i => to.getD i 0 * F.pow x i) + fsum to.length (fun i => (if k ≤ i then p.getD (i - k) 0 * y else 0) * F.pow x i) := by
    rw [← fsum_add]
    exact fsum_congr fun i _ => F.add_mul _ _ _
  rw [e]
  congr 1
  obtain ⟨m, hm⟩ : ∃ m, to.length = k + m := ⟨to.length - k, by omega⟩
  rw [hm, fsum_split, fsum_zero' (n := k) fun i hi => by rw [if_neg (by omega), F.zero_mul], F.zero_add, pv_sum p, fsum_mul, mul_fsum,
    fsum_more (n := p.length) (by omega) _ fun i hi _ => by rw [if_pos (by omega), Nat.add_sub_cancel_left, getD_beyond hi, F.zero_mul, F.zero_mul]]
  refine fsum_congr fun i _ => ?_
  rw [if_pos (by omega), Nat.add_sub_cancel_left, F.pow_add]
  ac_rfl
theorem addAt_start (to p : List F) (k : Nat) (y : F) : addAt to (p.take 0) k y = to := (tab_ext rfl fun j _ => by
  show to.getD j 0 = to.getD j 0 + (if k ≤ j then (([] : List F)).getD (j - k) 0 * y else 0)
  have : (([] : List F)).getD (j - k) 0 = 0 := rfl
  rw [this, F.zero_mul, ite_self, F.add_zero]).symm
theorem addAt_getD (to p : List F) (k j : Nat) (y : F) (h : k + p.length ≤ to.length) : (addAt to p k y).getD j 0 = to.getD j 0 + (if k ≤ j then p.getD (j - k) 0 * y else 0) := by
  rcases Nat.lt_or_ge j to.length with hj | hj
  · exact tab_getD _ _ _ hj
  · rw [getD_beyond (by rw [addAt_length]; exact hj), getD_beyond hj]
    split
    · rw [getD_beyond (g := p) (by omega), F.zero_mul, F.add_zero]
    · rw [F.add_zero]
end Go.Proofs.Ythejbmjleohlfaa
