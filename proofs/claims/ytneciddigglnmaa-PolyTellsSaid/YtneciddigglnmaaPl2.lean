/- Laws of polynomials over the field: roots, division, slopes, the ring. -/
import Derived.Test.YtneciddigglnmaaPl
namespace Go.Proofs.Ytneciddigglnmaa
open Go.RowKit

theorem pv_root (r x : F) : pv [r, 1] x = x + r := by
  rw [pv, pv_single, F.one_mul]
theorem root_short (r : F) : IsShort [r, 1] := fun _ h => F.zero_ne_one (show (1 : F) = 0 from h).symm
theorem root_shortL (r : F) : shortL [r, 1] = [r, 1] := shortL_id (root_short r)
theorem ofL_shape (l : List F) : ∀ k, k ≤ l.length → (ofL (l.take k)).length = k + 1 ∧ IsShort (ofL (l.take k)) := by
  intro k
  induction k with
  | zero => intro _; exact ⟨rfl, fun _ h => F.zero_ne_one (show (1 : F) = 0 from h).symm⟩
  | succ k ih =>
    intro hk
    obtain ⟨h1, h2⟩ := ih (by omega)
    rw [ofL_take (by omega)]
    refine ⟨?_, mulL_short _ _⟩
    rw [mulL_degree h2 (root_short _) (by omega) (by simp), h1]
    rfl
theorem ofL_len (l : List F) : (ofL l).length = l.length + 1 := by
  have := (ofL_shape l l.length (Nat.le_refl _)).1
  rwa [List.take_length] at this
theorem ofL_zero (l : List F) (x : F) : pv (ofL l) x = 0 ↔ x ∈ l := by
  have key : ∀ k, k ≤ l.length → (pv (ofL (l.take k)) x = 0 ↔ x ∈ l.take k) := by
    intro k
    induction k with
    | zero => intro _; exact ⟨fun h => absurd (show (1 : F) = 0 by rw [← h, List.take_zero]; exact (pv_single 1 x).symm) (fun h => F.zero_ne_one h.symm), fun h => by simp at h⟩
    | succ k ih =>
      intro hk
      rw [ofL_take (by omega), pv_mulL, F.mul_eq_zero, ih (by omega), pv_root, F.add_eq_zero, List.take_succ_eq_append_getElem (by omega), List.mem_append, List.mem_singleton, List.getD, List.getElem?_eq_getElem (by omega)]
      rfl
  have := key l.length (Nat.le_refl _)
  rwa [List.take_length] at this

theorem div_back {a b q r : List F} (h : DivOf a b q r) (ha : a.length ≤ 20000) (hb : b.length ≤ 20000) : addL (mulL q b) r = shortL a := by
  have h1 := h.q_length
  have h2 := h.less
  have h3 := shortL_length b
  have h4 := mulL_length q b
  have h5 := addL_length (mulL q b) r
  have h6 := shortL_length a
  exact pv_unique (addL_short _ _) (shortL_short _) (by omega) (by omega) fun x => by rw [pv_addL, pv_mulL, pv_short]; exact (h.value x).symm
theorem div_product {a b : List F} (hl : a.length + b.length ≤ 20000) (hb : 0 < (shortL b).length) : DivOf (mulL a b) b (shortL a) [] := by
  refine ⟨shortL_short a, isShort_nil, by simpa using hb, ?_, fun x => ?_⟩
  · rcases Nat.eq_zero_or_pos (shortL a).length with h0 | h0
    · omega
    · rw [mul_degree a b (by omega) h0 hb]; omega
  · rw [pv_mulL, pv_short]; exact (F.add_zero _).symm

/-- The quotient by z less a root. -/
def quot : List F → F → List F
  | [], _ => []
  | [_], _ => []
  | _ :: d :: l, x => pv (d :: l) x :: quot (d :: l) x
theorem quot_length (p : List F) (x : F) : (quot p x).length = p.length - 1 := by
  induction p with
  | nil => rfl
  | cons c l ih =>
    cases l with
    | nil => rfl
    | cons d l =>
      rw [quot, List.length_cons, ih]
      simp
theorem quot_value (p : List F) (x y : F) : pv p y = pv p x + (y + x) * pv (quot p x) y := by
  induction p with
  | nil => show (0 : F) = 0 + (y + x) * 0; rw [F.mul_zero, F.add_zero]
  | cons c l ih =>
    cases l with
    | nil => show pv [c] y = pv [c] x + (y + x) * 0; rw [F.mul_zero, F.add_zero, pv_single, pv_single]
    | cons d l =>
      rw [quot, pv, ih]
      show (pv (d :: l) x + (y + x) * pv (quot (d :: l) x) y) * y + c = pv (d :: l) x * x + c + (y + x) * (pv (quot (d :: l) x) y * y + pv (d :: l) x)
      generalize pv (d :: l) x = u
      generalize pv (quot (d :: l) x) y = q
      rw [F.add_mul, F.mul_add, F.mul_assoc (y + x) q y]
      generalize (y + x) * (q * y) = s
      rw [F.add_mul, F.mul_comm y u, F.mul_comm x u]
      generalize u * y = a
      generalize u * x = b
      have e : b + c + (s + (a + b)) = a + s + c := by
        rw [show b + c + (s + (a + b)) = (b + b) + (a + s + c) by ac_rfl, F.add_self, F.zero_add]
      exact e.symm
theorem roots_few (xs : List F) : ∀ p : List F, xs.Nodup → (∀ x ∈ xs, pv p x = 0) → (∃ y, pv p y ≠ 0) → xs.length < p.length := by
  induction xs with
  | nil =>
    rintro p _ _ ⟨y, hy⟩
    cases p with
    | nil => exact absurd rfl hy
    | cons c l => simp
  | cons x xs ih =>
    rintro p hn hz ⟨y, hy⟩
    rw [List.nodup_cons] at hn
    have hx : pv p x = 0 := hz x (by simp)
    have hq : ∀ z, pv p z = (z + x) * pv (quot p x) z := fun z => by rw [quot_value p x z, hx, F.zero_add]
    have := ih (quot p x) hn.2 (fun z hzm => by
      have h1 := hz z (by simp [hzm])
      rw [hq z, F.mul_eq_zero] at h1
      rcases h1 with h1 | h1
      · exact absurd (F.add_eq_zero.1 h1) (fun e => hn.1 (e ▸ hzm))
      · exact h1) ⟨y, fun h => hy (by rw [hq y, h, F.mul_zero])⟩
    rw [quot_length] at this
    rw [List.length_cons]
    omega
theorem short_value {p : List F} (hl : p.length ≤ 60000) (h : 0 < (shortL p).length) : ∃ y, pv (shortL p) y ≠ 0 := by
  refine Classical.byContradiction fun hn => ?_
  have hz : ∀ y, pv p y = pv [] y := fun y => by
    refine Classical.byContradiction fun h2 => hn ⟨y, by rw [pv_short]; exact h2⟩
  have := pv_shortL (a := p) (b := []) (by omega) (by simp) hz
  rw [this] at h
  simp [shortL] at h
theorem div_root {p q r : List F} {x : F} (h : DivOf p [x, 1] q r) : (r = [] ∧ pv p x = 0) ∨ (pv p x ≠ 0 ∧ r = [pv p x]) := by
  have hv : pv p x = pv r x := by
    rw [h.value x, pv_root, F.add_self, F.mul_zero, F.zero_add]
  have hl := h.less
  rw [root_shortL] at hl
  cases hr : r with
  | nil => exact .inl ⟨rfl, by rw [hv, hr]; rfl⟩
  | cons c l =>
    cases l with
    | nil =>
      have hs := h.r_short
      rw [hr] at hs
      have hc : c ≠ 0 := hs (by simp)
      rw [hr, pv_single] at hv
      exact .inr ⟨by rw [hv]; exact hc, by rw [hv]⟩
    | cons d l => rw [hr] at hl; simp at hl; omega

theorem mulL_comm (a b : List F) (h : a.length + b.length ≤ 60000) : mulL a b = mulL b a := by
  have h1 := mulL_length a b
  have h2 := mulL_length b a
  exact pv_unique (mulL_short _ _) (mulL_short _ _) (by omega) (by omega) fun x => by rw [pv_mulL, pv_mulL, F.mul_comm]
theorem mulL_assoc (a b c : List F) (h : a.length + b.length + c.length ≤ 20000) : mulL (mulL a b) c = mulL a (mulL b c) := by
  have h1 := mulL_length a b
  have h2 := mulL_length b c
  have h3 := mulL_length (mulL a b) c
  have h4 := mulL_length a (mulL b c)
  exact pv_unique (mulL_short _ _) (mulL_short _ _) (by omega) (by omega) fun x => by simp only [pv_mulL, F.mul_assoc]
theorem mulL_addL (a b c : List F) (h : a.length + b.length + c.length ≤ 20000) : mulL a (addL b c) = addL (mulL a b) (mulL a c) := by
  have h1 := addL_length b c
  have h2 := mulL_length a (addL b c)
  have h3 := mulL_length a b
  have h4 := mulL_length a c
  have h5 := addL_length (mulL a b) (mulL a c)
  exact pv_unique (mulL_short _ _) (addL_short _ _) (by omega) (by omega) fun x => by simp only [pv_mulL, pv_addL, F.mul_add]

theorem slopeL_getD (l : List F) (j : Nat) : (slopeL l).getD j 0 = if j % 2 = 1 then 0 else l.getD (j + 1) 0 := by
  rw [slopeL, shortL_getD]
  rcases Nat.lt_or_ge j (l.length - 1) with h | h
  · exact tab_getD _ _ _ h
  · rw [getD_beyond (by rw [slopeR, tab_length]; exact h), getD_beyond (g := l) (by omega), ite_self]
theorem slopeL_length (l : List F) : (slopeL l).length ≤ l.length - 1 := Nat.le_trans (shortL_length _) (by rw [slopeR, tab_length]; exact Nat.le_refl _)
theorem slopeL_same {a b : List F} (h : ∀ j, a.getD j 0 = b.getD j 0) : slopeL a = slopeL b := short_unique (shortL_short _) (shortL_short _) fun j => by
  show (slopeL a).getD j 0 = (slopeL b).getD j 0
  rw [slopeL_getD, slopeL_getD, h]
theorem slope_add (a b : List F) : slopeL (addL a b) = addL (slopeL a) (slopeL b) := short_unique (shortL_short _) (addL_short _ _) fun j => by
  show (slopeL (addL a b)).getD j 0 = _
  rw [slopeL_getD, addL_getD, addL_getD, slopeL_getD, slopeL_getD]
  split
  · exact (F.add_zero _).symm
  · rfl
theorem sv_same {a b : List F} (h : ∀ j, a.getD j 0 = b.getD j 0) (x : F) : pv (slopeL a) x = pv (slopeL b) x := by rw [slopeL_same h]
theorem sv_addR (a b : List F) (x : F) : pv (slopeL (addR a b)) x = pv (slopeL a) x + pv (slopeL b) x := by
  rw [sv_same (b := addL a b) (fun j => by rw [addR_getD, addL_getD]), slope_add, pv_addL]
theorem sv_scale (c : F) (l : List F) (x : F) : pv (slopeL (scaleL c l)) x = pv (slopeL l) x * c := by
  rw [← pv_scale]
  refine pv_same (fun j => ?_) x
  rw [slopeL_getD, scaleL_getD, scaleL_getD, slopeL_getD]
  split
  · exact (F.zero_mul c).symm
  · rfl
theorem sv_cons (c : F) (l : List F) (x : F) : pv (slopeL (c :: l)) x = pv l x + x * pv (slopeL l) x := by
  rw [← pv_zero_cons, ← pv_addR]
  refine pv_same (fun j => ?_) x
  rw [slopeL_getD, addR_getD]
  cases j with
  | zero => exact (F.add_zero _).symm
  | succ j =>
    show (if (j + 1) % 2 = 1 then 0 else l.getD (j + 1) 0) = l.getD (j + 1) 0 + (slopeL l).getD j 0
    rw [slopeL_getD]
    by_cases h : j % 2 = 1
    · rw [if_neg (by omega), if_pos h, F.add_zero]
    · rw [if_pos (by omega), if_neg h, F.add_self]
theorem sv_mulR (a b : List F) (x : F) : pv (slopeL (mulR a b)) x = pv a x * pv (slopeL b) x + pv b x * pv (slopeL a) x := by
  induction a with
  | nil => show (0 : F) = 0 * _ + _ * 0; rw [F.zero_mul, F.mul_zero, F.add_zero]
  | cons c l ih =>
    rw [mulR, sv_addR, sv_scale, sv_cons 0, ih, pv_mulR, sv_cons, pv]
    generalize pv (slopeL b) x = sb
    generalize pv (slopeL l) x = sl
    generalize pv l x = u
    generalize pv b x = v
    rw [F.mul_add, F.mul_add, F.add_mul]
    ac_rfl
theorem slope_mul (a b : List F) (h : a.length + b.length ≤ 20000) : slopeL (mulL a b) = addL (mulL a (slopeL b)) (mulL b (slopeL a)) := by
  have h0 := mulL_length a b
  have h1 := slopeL_length (mulL a b)
  have h2 := slopeL_length a
  have h3 := slopeL_length b
  have h4 := mulL_length a (slopeL b)
  have h5 := mulL_length b (slopeL a)
  have h6 := addL_length (mulL a (slopeL b)) (mulL b (slopeL a))
  refine pv_unique (shortL_short _) (addL_short _ _) (by show (slopeL (mulL a b)).length ≤ _; omega) (by omega) fun x => ?_
  show pv (slopeL (mulL a b)) x = _
  rw [sv_same (b := mulR a b) (fun j => by rw [mulL, shortL_getD]), sv_mulR, pv_addL, pv_mulL, pv_mulL]
end Go.Proofs.Ytneciddigglnmaa
