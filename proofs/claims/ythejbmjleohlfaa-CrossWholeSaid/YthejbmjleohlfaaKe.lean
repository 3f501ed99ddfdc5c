/- The key equation: what the extended division of Euclid comes to, and that it makes a word right that has few wrong symbols. -/
import Derived.Test.YthejbmjleohlfaaPd
namespace Go.Proofs.Ythejbmjleohlfaa

theorem slopeL_getD (l : List F) (j : Nat) : (slopeL l).getD j 0 = if j % 2 = 1 then 0 else l.getD (j + 1) 0 := by
  rw [slopeL, shortL_getD]
  rcases Nat.lt_or_ge j (l.length - 1) with h | h
  · exact tab_getD _ _ _ h
  · rw [getD_beyond (by rw [slopeR, tab_length]; exact h), getD_beyond (g := l) (by omega), ite_self]
theorem slopeL_length (l : List F) : (slopeL l).length ≤ l.length - 1 := Nat.le_trans (shortL_length _) (by rw [slopeR, tab_length]; exact Nat.le_refl _)
theorem slopeL_same {a b : List F} (h : ∀ j, a.getD j 0 = b.getD j 0) : slopeL a = slopeL b := short_unique (shortL_short _) (shortL_short _) fun j => by
  show (slopeL a).getD j 0 = (slopeL b).getD j 0
  rw [slopeL_getD, slopeL_getD, h]
theorem slope_add (a b : List F) : slopeL (addL a b) = addL (slopeL a) (slopeL b) := short_unique (shortL_short _) (addL_short _ _) fun j => by
  show (slopeL (addL a b)).getD j 0 = _
  rw [slopeL_getD, addL_getD, addL_getD, slopeL_getD, slopeL_getD]
  split
  · exact (F.add_zero _).symm
  · rfl
theorem sv_same {a b : List F} (h : ∀ j, a.getD j 0 = b.getD j 0) (x : F) : pv (slopeL a) x = pv (slopeL b) x := by rw [slopeL_same h]
theorem sv_addR (a b : List F) (x : F) : pv (slopeL (addR a b)) x = pv (slopeL a) x + pv (slopeL b) x := by
  rw [sv_same (b := addL a b) (fun j => by rw [addR_getD, addL_getD]), slope_add, pv_addL]
theorem sv_scale (c : F) (l : List F) (x : F) : pv (slopeL (scaleL c l)) x = pv (slopeL l) x * c := by
  rw [← pv_scale]
  refine pv_same (fun j => ?_) x
  rw [slopeL_getD, scaleL_getD, scaleL_getD, slopeL_getD]
  split
  · exact (F.zero_mul c).symm
  · rfl
theorem sv_cons (c : F) (l : List F) (x : F) : pv (slopeL (c :: l)) x = pv l x + x * pv (slopeL l) x := by
  rw [← pv_zero_cons, ← pv_addR]
  refine pv_same (fun j => ?_) x
  rw [slopeL_getD, addR_getD]
  cases j with
  | zero => exact (F.add_zero _).symm
  | succ j =>
    show (if (j + 1) % 2 = 1 then 0 else l.getD (j + 1) 0) = l.getD (j + 1) 0 + (slopeL l).getD j 0
    rw [slopeL_getD]
    by_cases h : j % 2 = 1
    · rw [if_neg (by omega), if_pos h, F.add_zero]
    · rw [if_pos (by omega), if_neg h, F.add_self]
theorem sv_mulR (a b : List F) (x : F) : pv (slopeL (mulR a b)) x = pv a x * pv (slopeL b) x + pv b x * pv (slopeL a) x := by
  induction a with
  | nil => show (0 : F) = 0 * _ + _ * 0; rw [F.zero_mul, F.mul_zero, F.add_zero]
  | cons c l ih =>
    rw [mulR, sv_addR, sv_scale, sv_cons 0, ih, pv_mulR, sv_cons, pv]
    generalize pv (slopeL b) x = sb
    generalize pv (slopeL l) x = sl
    generalize pv l x = u
    generalize pv b x = v
    rw [F.mul_add, F.mul_add, F.add_mul]
    ac_rfl
theorem sv_mulL (a b : List F) (x : F) : pv (slopeL (mulL a b)) x = pv a x * pv (slopeL b) x + pv b x * pv (slopeL a) x := by
  rw [sv_same (b := mulR a b) (fun j => by rw [mulL, shortL_getD]), sv_mulR]

/-- The quotient's length. -/
theorem div_len {a b q r : List F} (h : DivOf a b q r) (_sa : IsShort a) (sb : IsShort b) (la : a.length ≤ 2000) (lb : b.length ≤ a.length) : q.length + b.length ≤ a.length + 1 := by
  have hless := h.less
  rw [shortL_id sb] at hless
  have hq := h.q_length
  rcases Nat.eq_zero_or_pos q.length with h0 | h0
  · omega
  rcases Nat.lt_or_ge (a.length + 1) (q.length + b.length) with hlt | hge
  · exfalso
    have hm := mulR_length q b h0 (by omega)
    have ht := mulR_top q b h0 (by omega)
    have he := pv_ext (a := a) (b := addR (mulR q b) r) (by omega) (by rw [addR_length]; omega) (fun x => by rw [h.value, pv_addR, pv_mulR]) (q.length + b.length - 2)
    rw [getD_beyond (g := a) (by omega), addR_getD, getD_beyond (g := r) (by omega), F.add_zero, ht] at he
    exact F.mul_ne_zero (h.q_short h0) (sb (by omega)) he.symm
  · exact hge

/-- The midst of the extended division of z to the power r and X, with g places gone. -/
structure Euc (r g : Nat) (X a b s t : List F) : Prop where
  sa : IsShort a
  sb : IsShort b
  less : b.length < a.length
  big : r + g + 2 ≤ 2 * a.length
  top : a.length ≤ r + 1
  tl : t.length + a.length ≤ r + 2
  sl : s.length + a.length ≤ r + 2
  tv : ∃ m : List F, m.length + a.length ≤ r + 2 ∧ ∀ x, pv t x * pv X x + pv b x = F.pow x r * pv m x
  sv : ∃ m : List F, m.length + a.length ≤ r + 2 ∧ ∀ x, pv s x * pv X x + pv a x = F.pow x r * pv m x
  det : ∀ x, pv a x * pv t x + pv b x * pv s x = F.pow x r
theorem pv_power (r : Nat) (x : F) : pv (List.replicate r 0 ++ [1]) x = F.pow x r := by
  rw [pv_append, pv_zeros, F.zero_add, pv_single, F.mul_one, List.length_replicate]
theorem power_short (r : Nat) : IsShort (List.replicate r (0 : F) ++ [1]) := fun _ => by
  rw [List.getD, List.length_append, List.length_replicate, List.length_singleton, Nat.add_sub_cancel, List.getElem?_append_right (by simp)]
  simp
  exact fun e => F.zero_ne_one e.symm
theorem euc_start {r g : Nat} {X : List F} (hX : IsShort X) (hl : X.length ≤ r) (hg : g ≤ r) : Euc r g X (List.replicate r 0 ++ [1]) X [] [1] := by
  have hlen : (List.replicate r (0 : F) ++ [1]).length = r + 1 := by simp
  refine ⟨power_short r, hX, by omega, by omega, by omega, by simp; omega, by simp, ⟨[], by simp, fun x => ?_⟩, ⟨[1], by simp; omega, fun x => ?_⟩, fun x => ?_⟩
  · rw [pv_single, F.one_mul, F.add_self]; exact (F.mul_zero _).symm
  · rw [pv_power, pv_single, F.mul_one]; show 0 * _ + _ = _; rw [F.zero_mul, F.zero_add]
  · rw [pv_power, pv_single, F.mul_one]; show _ + _ * 0 = _; rw [F.mul_zero, F.add_zero]
theorem euc_step {r g : Nat} {X a b s t q e : List F} (h : Euc r g X a b s t) (hb : r + g + 2 ≤ 2 * b.length) (hr : r ≤ 255) (d : DivOf a b q e) : Euc r g X b e t (addL s (mulL q t)) := by
  have hlt := h.less
  have htop := h.top
  have htl := h.tl
  have hsl := h.sl
  have hql := div_len d h.sa h.sb (by omega) (by omega)
  have hdl := d.less
  rw [shortL_id h.sb] at hdl
  have hmul : ∀ u : List F, u.length + a.length ≤ r + 2 → (mulL q u).length + b.length ≤ r + 2 := fun u hu => by
    rcases Nat.eq_zero_or_pos q.length with h0 | h0
    · obtain rfl := List.eq_nil_of_length_eq_zero h0
      rw [nil_mulL]; simp; omega
    · rcases Nat.eq_zero_or_pos u.length with h1 | h1
      · obtain rfl := List.eq_nil_of_length_eq_zero h1
        rw [mulL_nil]; simp; omega
      · have := mulL_length' q u h0 h1
        omega
  obtain ⟨mt, hmt, tv⟩ := h.tv
  obtain ⟨ms, hms, sv⟩ := h.sv
  refine ⟨h.sb, d.r_short, hdl, hb, by omega, ?_, by omega, ⟨addL ms (mulL q mt), ?_, fun x => ?_⟩, ⟨mt, by omega, tv⟩, fun x => ?_⟩
  · have := addL_length s (mulL q t)
    have := hmul t htl
    omega
  · have := addL_length ms (mulL q mt)
    have := hmul mt hmt
    omega
  · rw [pv_addL, pv_mulL, pv_addL, pv_mulL, F.add_mul, F.mul_add, F.mul_left_comm _ (pv q x), ← tv, ← sv, d.value]
    have e1 : ∀ u v w y z : F, z = y + w → u + v + w = u + z + (v + y) := fun u v w y z hz => by
      rw [hz, show u + (y + w) + (v + y) = u + v + w + (y + y) by ac_rfl, F.add_self, F.add_zero]
    rw [F.mul_add]
    rw [show pv q x * pv t x * pv X x = pv q x * (pv t x * pv X x) from F.mul_assoc _ _ _]
    exact e1 _ _ _ _ _ rfl
  · rw [pv_addL, pv_mulL, ← h.det x, d.value x, F.mul_add, F.add_mul]
    have e1 : ∀ u v w y : F, v = y → u + v + w = y + w + u := fun u v w y hz => by
      rw [hz]; ac_rfl
    exact e1 _ _ _ _ (by ac_rfl)

/-- What locate tells, as a property. -/
def Located (r g : Nat) (X t b : List F) : Prop := ∃ a s, Euc r g X a b s t ∧ 2 * b.length ≤ r + g + 1

/-- A product over places: 0 at just the inverses of their points. -/
def pr (n : Nat) (I : List Nat) (x : F) : F := I.foldr (fun i v => (F.px (n - 1 - i) * x + 1) * v) 1
theorem pr_append (n : Nat) (I J : List Nat) (x : F) : pr n (I ++ J) x = pr n I x * pr n J x := by
  induction I with
  | nil => exact (F.one_mul _).symm
  | cons i I ih =>
    show (_ : F) * pr n (I ++ J) x = _ * pr n I x * pr n J x
    rw [ih, F.mul_assoc]
theorem pv_point (c x : F) : pv [1, c] x = c * x + 1 := by rw [pv, pv_single]
theorem sv_point (c x : F) : pv (slopeL [1, c]) x = c := by
  rw [sv_cons, pv_single]
  show c + x * 0 = c
  rw [F.mul_zero, F.add_zero]
/-- The polynomial of places, from the last one on. -/
def psi (n : Nat) : List Nat → List F
  | [] => [1]
  | i :: I => mulL [1, F.px (n - 1 - i)] (psi n I)
theorem psi_length (n : Nat) (I : List Nat) : (psi n I).length ≤ I.length + 1 := by
  induction I with
  | nil => simp [psi]
  | cons i I ih =>
    rw [psi, List.length_cons]
    rcases Nat.eq_zero_or_pos (psi n I).length with h0 | h0
    · obtain h0 := List.eq_nil_of_length_eq_zero h0
      rw [h0, mulL_nil]; simp
    · have := mulL_length' [1, F.px (n - 1 - i)] (psi n I) (by simp) h0
      simp at this
      omega
theorem pv_psi (n : Nat) (I : List Nat) (x : F) : pv (psi n I) x = pr n I x := by
  induction I with
  | nil => exact pv_single 1 x
  | cons i I ih => rw [psi, pv_mulL, pv_point, ih]; rfl
theorem pr_zero {n : Nat} {I : List Nat} {x : F} : pr n I x = 0 ↔ ∃ i ∈ I, F.px (n - 1 - i) * x = 1 := by
  induction I with
  | nil => exact ⟨fun h => absurd h.symm F.zero_ne_one, fun ⟨_, h, _⟩ => absurd h (by simp)⟩
  | cons i I ih =>
    show (_ : F) * pr n I x = 0 ↔ _
    rw [F.mul_eq_zero, F.add_eq_zero, ih]
    simp
/-- The numerator. -/
def om (n : Nat) (e : Nat → F) : List Nat → List F
  | [] => []
  | i :: I => addL (mulL [1, F.px (n - 1 - i)] (om n e I)) (scaleL (e i) (psi n I))
def qm (n r : Nat) (e : Nat → F) : List Nat → List F
  | [] => []
  | i :: I => addL (mulL [1, F.px (n - 1 - i)] (qm n r e I)) (scaleL (e i * F.pow (F.px (n - 1 - i)) r) (psi n I))
theorem om_length (n : Nat) (e : Nat → F) (I : List Nat) : (om n e I).length ≤ I.length := by
  induction I with
  | nil => simp [om]
  | cons i I ih =>
    rw [om, List.length_cons]
    refine Nat.le_trans (addL_length _ _) ?_
    have h2 := psi_length n I
    rw [scaleL_length]
    rcases Nat.eq_zero_or_pos (om n e I).length with h0 | h0
    · obtain h0 := List.eq_nil_of_length_eq_zero h0
      rw [h0, mulL_nil]; simp; omega
    · have := mulL_length' [1, F.px (n - 1 - i)] (om n e I) (by simp) h0
      simp at this
      omega
theorem qm_length (n r : Nat) (e : Nat → F) (I : List Nat) : (qm n r e I).length ≤ I.length := by
  induction I with
  | nil => simp [qm]
  | cons i I ih =>
    rw [qm, List.length_cons]
    refine Nat.le_trans (addL_length _ _) ?_
    have h2 := psi_length n I
    rw [scaleL_length]
    rcases Nat.eq_zero_or_pos (qm n r e I).length with h0 | h0
    · obtain h0 := List.eq_nil_of_length_eq_zero h0
      rw [h0, mulL_nil]; simp; omega
    · have := mulL_length' [1, F.px (n - 1 - i)] (qm n r e I) (by simp) h0
      simp at this
      omega
/-- A sum over places. -/
def lsum (I : List Nat) (f : Nat → F) : F := I.foldr (fun i v => f i + v) 0
theorem lsum_fsum : ∀ (I : List Nat) (n : Nat) (f : Nat → F), I.Nodup → (∀ i ∈ I, i < n) → (∀ i, i < n → i ∉ I → f i = 0) → fsum n f = lsum I f := by
  intro I
  induction I with
  | nil => intro n f _ _ h; exact fsum_zero' fun i hi => h i hi (by simp)
  | cons i I ih =>
    intro n f hnd hlt h0
    have hni : i ∉ I := (List.nodup_cons.1 hnd).1
    have e1 : fsum n f = fsum n (fun k => if k = i then f k else 0) + fsum n (fun k => if k = i then 0 else f k) := by
      rw [← fsum_add]
      refine fsum_congr fun k _ => ?_
      by_cases hk : k = i
      · rw [if_pos hk, if_pos hk, F.add_zero]
      · rw [if_neg hk, if_neg hk, F.zero_add]
    rw [e1, fsum_one i (hlt i (by simp)) _ (fun k _ hk => if_neg hk), if_pos rfl, ih n _ (List.nodup_cons.1 hnd).2 (fun k hk => hlt k (by simp [hk])) (fun k hk hkI => by
      by_cases hki : k = i
      · rw [if_pos hki]
      · rw [if_neg hki]; exact h0 k hk (by simp [hki, hkI]))]
    show _ = f i + lsum I f
    congr 1
    have : ∀ J : List Nat, i ∉ J → lsum J (fun k => if k = i then 0 else f k) = lsum J f := by
      intro J
      induction J with
      | nil => intro _; rfl
      | cons j J ihJ =>
        intro hj
        simp only [List.mem_cons, not_or] at hj
        show (if j = i then 0 else f j) + lsum J _ = f j + lsum J f
        rw [if_neg (fun e => hj.1 e.symm), ihJ hj.2]
    exact this I hni
/-- A row of powers: a geometric sum. -/
theorem geo (r : Nat) (y : F) : (y + 1) * fsum r (fun j => F.pow y j) = 1 + F.pow y r := by
  induction r with
  | zero => show _ * 0 = _; rw [F.mul_zero, F.pow_zero, F.add_self]
  | succ r ih =>
    show (y + 1) * (fsum r _ + F.pow y r) = _
    rw [F.mul_add, ih, F.pow_succ, F.add_mul, F.one_mul, F.mul_comm y]
    rw [show 1 + F.pow y r + (F.pow y r * y + F.pow y r) = 1 + F.pow y r * y + (F.pow y r + F.pow y r) by ac_rfl, F.add_self, F.add_zero]
/-- The sums of places, as a polynomial's value. -/
def ssum (n r : Nat) (e : Nat → F) (I : List Nat) (x : F) : F := lsum I (fun i => e i * fsum r (fun j => F.pow (F.px (n - 1 - i) * x) j))
/-- THE KEY EQUATION. -/
theorem key (n r : Nat) (e : Nat → F) (I : List Nat) (x : F) : pr n I x * ssum n r e I x = pv (om n e I) x + F.pow x r * pv (qm n r e I) x := by
  induction I with
  | nil => show (1 : F) * 0 = 0 + _ * 0; rw [F.mul_zero, F.mul_zero, F.add_zero]
  | cons i I ih =>
    show (F.px (n - 1 - i) * x + 1) * pr n I x * (e i * fsum r (fun j => F.pow (F.px (n - 1 - i) * x) j) + ssum n r e I x) = _
    rw [om, qm, pv_addL, pv_addL, pv_mulL, pv_mulL, pv_scale, pv_scale, pv_point, pv_psi, F.mul_add]
    have e1 := geo r (F.px (n - 1 - i) * x)
    generalize fsum r (fun j => F.pow (F.px (n - 1 - i) * x) j) = G at e1
    rw [F.mul_pow] at e1
    generalize F.px (n - 1 - i) = X at e1 ⊢
    generalize pv (om n e I) x = O at ih ⊢
    generalize pv (qm n r e I) x = Q at ih ⊢
    generalize pr n I x = P at ih ⊢
    generalize ssum n r e I x = S at ih ⊢
    rw [show (X * x + 1) * P * (e i * G) = P * e i * ((X * x + 1) * G) by ac_rfl, e1, F.mul_assoc (X * x + 1) P S, ih, F.mul_add, F.mul_add, F.mul_add, F.mul_one]
    ac_rfl
/-- The numerator and the slope at a place's root. -/
theorem forney (n : Nat) (hn : n ≤ 255) (e : Nat → F) : ∀ (I : List Nat), I.Nodup → (∀ i ∈ I, i < n) → ∀ k ∈ I, ∀ x, F.px (n - 1 - k) * x = 1 →
    F.px (n - 1 - k) * pv (om n e I) x = e k * pv (slopeL (psi n I)) x ∧ pv (slopeL (psi n I)) x ≠ 0 := by
  intro I
  induction I with
  | nil => intro _ _ k hk; simp at hk
  | cons i I ih =>
    intro hnd hlt k hk x hx
    have hni : i ∉ I := (List.nodup_cons.1 hnd).1
    rw [om, psi, pv_addL, pv_mulL, pv_scale, sv_mulL, pv_point, sv_point, pv_psi]
    by_cases hki : k = i
    · subst hki
      rw [hx, F.add_self, F.zero_mul, F.zero_mul, F.zero_add, F.zero_add]
      have hP : pr n I x ≠ 0 := fun h0 => by
        obtain ⟨j, hj, hjx⟩ := pr_zero.1 h0
        have h1 := F.px_inj (by omega) (by omega) (F.mul_right_cancel (fun e0 => by rw [e0, F.mul_zero] at hx; exact F.zero_ne_one hx) (hx.trans hjx.symm))
        have h2 := hlt k (by simp)
        have h3 := hlt j (by simp [hj])
        have : k = j := by omega
        exact hni (this ▸ hj)
      exact ⟨by ac_rfl, F.mul_ne_zero hP (F.px_ne_zero _)⟩
    · have hkI : k ∈ I := by
        rcases List.mem_cons.1 hk with h | h
        · exact absurd h hki
        · exact h
      obtain ⟨h1, h2⟩ := ih (List.nodup_cons.1 hnd).2 (fun j hj => hlt j (by simp [hj])) k hkI x hx
      have hP : pr n I x = 0 := pr_zero.2 ⟨k, hkI, hx⟩
      rw [hP, F.zero_mul, F.zero_mul, F.add_zero, F.add_zero]
      have hne : F.px (n - 1 - i) * x + 1 ≠ 0 := fun h0 => by
        have h3 := F.px_inj (by omega) (by omega) (F.mul_right_cancel (fun e0 => by rw [e0, F.mul_zero] at hx; exact F.zero_ne_one hx) (hx.trans (F.add_eq_zero.1 h0).symm))
        have h4 := hlt k hk
        have h5 := hlt i (by simp)
        omega
      exact ⟨by rw [F.mul_left_comm, h1]; ac_rfl, F.mul_ne_zero hne h2⟩

/-- What the places that are gone come to. -/
def goneL (n : Nat) (gs : List Nat) : List F := gs.foldl (fun p i => mulL p [1, F.px (n - 1 - i)]) [1]
theorem goneL_snoc (n : Nat) (gs : List Nat) (i : Nat) : goneL n (gs ++ [i]) = mulL (goneL n gs) [1, F.px (n - 1 - i)] := by rw [goneL, List.foldl_append]; rfl
theorem goneL_take (n : Nat) {gs : List Nat} {k : Nat} (h : k < gs.length) : goneL n (gs.take (k + 1)) = mulL (goneL n (gs.take k)) [1, F.px (n - 1 - gs.getD k 0)] := by
  rw [List.take_succ_eq_append_getElem h, goneL_snoc, List.getD, List.getElem?_eq_getElem h]
  rfl
theorem goneL_length (n : Nat) (gs : List Nat) : (goneL n gs).length ≤ gs.length + 1 := by
  have : ∀ (l : List Nat) (o : List F), (l.foldl (fun p i => mulL p [1, F.px (n - 1 - i)]) o).length ≤ o.length + l.length := by
    intro l
    induction l with
    | nil => intro o; exact Nat.le_refl _
    | cons x l ih =>
      intro o
      refine Nat.le_trans (ih _) ?_
      have h : (mulL o [1, F.px (n - 1 - x)]).length ≤ o.length + 1 := by
        rcases Nat.eq_zero_or_pos o.length with h | h
        · obtain rfl := List.eq_nil_of_length_eq_zero h
          simp [nil_mulL]
        · exact Nat.le_trans (mulL_length' o [1, F.px (n - 1 - x)] h (by simp)) (by simp)
      rw [List.length_cons]
      show (mulL o [1, F.px (n - 1 - x)]).length + l.length ≤ _
      omega
  refine Nat.le_trans (this gs [1]) ?_
  simp; omega
theorem pv_goneL (n : Nat) (gs : List Nat) (x : F) : pv (goneL n gs) x = pr n gs x := by
  have : ∀ (l : List Nat) (o : List F), pv (l.foldl (fun p i => mulL p [1, F.px (n - 1 - i)]) o) x = pv o x * pr n l x := by
    intro l
    induction l with
    | nil => intro o; exact (F.mul_one _).symm
    | cons i l ih =>
      intro o
      rw [List.foldl_cons, ih, pv_mulL, pv_point, F.mul_assoc]
      rfl
  rw [goneL, this, pv_single, F.one_mul]
theorem one_short : IsShort [(1 : F)] := fun _ h => F.zero_ne_one (show (1 : F) = 0 from h).symm
theorem goneL_short (n : Nat) (gs : List Nat) : IsShort (goneL n gs) := by
  have : ∀ (l : List Nat) (o : List F), IsShort o → IsShort (l.foldl (fun p i => mulL p [1, F.px (n - 1 - i)]) o) := by
    intro l
    induction l with
    | nil => intro o h; exact h
    | cons i l ih => intro o _; exact ih _ (mulL_short _ _)
  exact this gs [1] one_short
theorem psi_short (n : Nat) (I : List Nat) : IsShort (psi n I) := by
  cases I with
  | nil => exact one_short
  | cons i I => exact mulL_short _ _
theorem goneL_psi (n : Nat) (gs : List Nat) (h : gs.length ≤ 1000) : goneL n gs = psi n gs := by
  have h1 := goneL_length n gs
  have h2 := psi_length n gs
  exact pv_unique (goneL_short n gs) (psi_short n gs) (by omega) (by omega) fun x => by rw [pv_goneL, pv_psi]
theorem psi_append (n : Nat) (I J : List Nat) (h : I.length + J.length ≤ 1000) : psi n (I ++ J) = mulL (psi n I) (psi n J) := by
  have h0 := psi_length n (I ++ J)
  have h1 := psi_length n I
  have h2 := psi_length n J
  have h3 := mulL_length (psi n I) (psi n J)
  rw [List.length_append] at h0
  exact pv_unique (psi_short n _) (mulL_short _ _) (by omega) (by omega) fun x => by rw [pv_mulL, pv_psi, pv_psi, pv_psi, pr_append]
theorem pv_cut (l : List F) (r : Nat) : ∃ m : List F, m.length ≤ l.length - r ∧ ∀ x, pv l x = pv (l.take r) x + F.pow x r * pv m x := by
  refine ⟨l.drop r, by rw [List.length_drop]; exact Nat.le_refl _, fun x => ?_⟩
  rcases Nat.lt_or_ge l.length r with h | h
  · rw [List.take_of_length_le (by omega), List.drop_of_length_le (by omega)]
    show _ = _ + _ * 0
    rw [F.mul_zero, F.add_zero]
  · have := pv_append (l.take r) (l.drop r) x
    rw [List.take_append_drop, List.length_take, Nat.min_eq_left h] at this
    exact this
theorem getD_zeros_left {r j : Nat} (M : List F) (h : j < r) : (List.replicate r (0 : F) ++ M).getD j 0 = 0 := by
  rw [List.getD, List.getElem?_append_left (by simpa using h), List.getElem?_replicate]
  split <;> rfl
/-- A short polynomial that is a multiple of a high power of z is 0. -/
theorem low_zero {L M : List F} {r : Nat} (hL : L.length ≤ r) (hM : r + M.length ≤ 65535) (h : ∀ x, pv L x = F.pow x r * pv M x) : ∀ x, pv L x = 0 := by
  intro x
  have e := pv_ext (a := L) (b := List.replicate r 0 ++ M) (by omega) (by simp; omega) fun y => by
    rw [pv_append, pv_zeros, F.zero_add, List.length_replicate, h]
  exact pv_same (b := []) (fun j => by
    rcases Nat.lt_or_ge j r with hj | hj
    · rw [e, getD_zeros_left M hj]; rfl
    · rw [getD_beyond (by omega)]; rfl) x
theorem pow_ne_zero {x : F} (h : x ≠ 0) (r : Nat) : F.pow x r ≠ 0 := by
  induction r with
  | zero => exact fun h => F.zero_ne_one h.symm
  | succ r ih => exact F.mul_ne_zero ih h
/-- THE KEY EQUATION'S ANSWER: at each place the locator and the value tell what is wrong there. -/
theorem key_mend {n r : Nat} {gs es : List Nat} {e : Nat → F} {S X t b : List F} (hn : n ≤ 255) (hr : r ≤ n) (hnd : (es ++ gs).Nodup) (hlt : ∀ i ∈ es ++ gs, i < n)
    (hcnt : 2 * es.length + gs.length ≤ r) (he : ∀ i ∈ es, e i ≠ 0) (hS : S.length ≤ r) (hSv : ∀ x, pv S x = ssum n r e (es ++ gs) x)
    (hX : X = shortL ((mulL (goneL n gs) S).take r)) (hloc : Located r gs.length X t b) (k : Nat) (hk : k < n) (x : F) (hx : F.px (n - 1 - k) * x = 1) :
    (k ∉ es ++ gs → pv (mulL t (goneL n gs)) x ≠ 0) ∧ (k ∈ es ++ gs → pv (mulL t (goneL n gs)) x = 0 ∧ pv (slopeL (mulL t (goneL n gs))) x ≠ 0 ∧ F.px (n - 1 - k) * pv b x = e k * pv (slopeL (mulL t (goneL n gs))) x) := by
  obtain ⟨a, s, E, hbl⟩ := hloc
  have htl := E.tl
  have hbig := E.big
  have htop := E.top
  obtain ⟨mt, hmt, tv⟩ := E.tv
  have hGl := goneL_length n gs
  have hLl := psi_length n es
  have hOl := om_length n e (es ++ gs)
  have hQl := qm_length n r e (es ++ gs)
  rw [List.length_append] at hOl hQl
  have hGS := mulL_length (goneL n gs) S
  obtain ⟨m0, hm0, hcut⟩ := pv_cut (mulL (goneL n gs) S) r
  -- the true locator's equation
  obtain ⟨m2, hm2, k1⟩ : ∃ m2 : List F, m2.length ≤ 3000 ∧ ∀ y, pv (psi n es) y * pv X y + pv (om n e (es ++ gs)) y = F.pow y r * pv m2 y := by
    refine ⟨addL (qm n r e (es ++ gs)) (mulL (psi n es) m0), ?_, fun y => ?_⟩
    · have h1 := addL_length (qm n r e (es ++ gs)) (mulL (psi n es) m0)
      have h2 := mulL_length (psi n es) m0
      omega
    · have h1 := hcut y
      have h2 := key n r e (es ++ gs) y
      rw [pv_mulL, pv_goneL, hSv, ← pv_short (List.take r _), ← hX] at h1
      rw [pr_append, F.mul_assoc, h1] at h2
      rw [pv_psi, pv_addL, pv_mulL, pv_psi]
      generalize pr n es y = P at h2 ⊢
      generalize pv X y = Xv at h2 ⊢
      generalize pv m0 y = M at h2 ⊢
      generalize pv (om n e (es ++ gs)) y = O at h2 ⊢
      generalize pv (qm n r e (es ++ gs)) y = Q at h2 ⊢
      generalize F.pow y r = Z at h2 ⊢
      rw [F.mul_add] at h2
      rw [F.mul_add, F.mul_left_comm Z P M]
      have e1 : ∀ u v o w : F, u + v = o + w → u + o = w + v := fun u v o w h => by
        have h3 : u + v + v + o = o + w + v + o := by rw [h]
        rw [show u + v + v + o = u + o + (v + v) by ac_rfl, F.add_self, F.add_zero, show o + w + v + o = w + v + (o + o) by ac_rfl, F.add_self, F.add_zero] at h3
        exact h3
      exact e1 _ _ _ _ h2
  -- both answers go together
  have hz : ∀ y, pv (addL (mulL t (om n e (es ++ gs))) (mulL (psi n es) b)) y = 0 := by
    refine low_zero (M := addL (mulL t m2) (mulL (psi n es) mt)) (r := r) ?_ ?_ fun y => ?_
    · have h1 := addL_length (mulL t (om n e (es ++ gs))) (mulL (psi n es) b)
      have h2 : (mulL t (om n e (es ++ gs))).length ≤ r := by
        rcases Nat.eq_zero_or_pos t.length with h0 | h0
        · rw [List.eq_nil_of_length_eq_zero h0, nil_mulL]; simp
        rcases Nat.eq_zero_or_pos (om n e (es ++ gs)).length with h3 | h3
        · rw [List.eq_nil_of_length_eq_zero h3, mulL_nil]; simp
        have := mulL_length' t _ h0 h3
        omega
      have h3 : (mulL (psi n es) b).length ≤ r := by
        rcases Nat.eq_zero_or_pos (psi n es).length with h0 | h0
        · rw [List.eq_nil_of_length_eq_zero h0, nil_mulL]; simp
        rcases Nat.eq_zero_or_pos b.length with h3 | h3
        · rw [List.eq_nil_of_length_eq_zero h3, mulL_nil]; simp
        have := mulL_length' _ b h0 h3
        omega
      omega
    · have h1 := addL_length (mulL t m2) (mulL (psi n es) mt)
      have h2 := mulL_length t m2
      have h3 := mulL_length (psi n es) mt
      omega
    · rw [pv_addL, pv_mulL, pv_mulL, pv_addL, pv_mulL, pv_mulL, F.mul_add, F.mul_left_comm _ (pv t y), F.mul_left_comm _ (pv (psi n es) y), ← k1, ← tv, F.mul_add, F.mul_add]
      have e1 : ∀ u v w z : F, u = w → v + z = u + v + (w + z) := fun u v w z h => by
        rw [h, show w + v + (w + z) = v + z + (w + w) by ac_rfl, F.add_self, F.add_zero]
      exact e1 _ _ _ _ (F.mul_left_comm _ _ _)
  have hv : ∀ y, pv t y * pv (om n e (es ++ gs)) y = pv (psi n es) y * pv b y := fun y => by
    have := hz y
    rw [pv_addL, pv_mulL, pv_mulL] at this
    exact F.add_eq_zero.1 this
  have hsame : mulL t (om n e (es ++ gs)) = mulL (psi n es) b := by
    have h2 := mulL_length t (om n e (es ++ gs))
    have h3 := mulL_length (psi n es) b
    exact pv_unique (mulL_short _ _) (mulL_short _ _) (by omega) (by omega) fun y => by rw [pv_mulL, pv_mulL]; exact hv y
  have hsl := congrArg (fun l => pv (slopeL l) x) hsame
  simp only [sv_mulL] at hsl
  have hv := hv x
  have hdet := E.det x
  have hx0 : x ≠ 0 := fun e0 => by rw [e0, F.mul_zero] at hx; exact F.zero_ne_one hx
  have hxr := pow_ne_zero hx0 r
  have hA : pv t x = 0 → pv b x ≠ 0 := fun h1 h2 => hxr (by rw [← hdet, h1, h2, F.mul_zero, F.zero_mul, F.add_zero])
  have hfor := fun h => forney n hn e (es ++ gs) hnd hlt k h x hx
  rw [psi_append n es gs (by omega), ← goneL_psi n gs (by omega)] at hfor
  rw [sv_mulL] at hfor
  rw [pv_mulL, sv_mulL]
  have hL0 : pv (psi n es) x = 0 ↔ k ∈ es := by
    rw [pv_psi, pr_zero]
    refine ⟨fun ⟨i, hi, hix⟩ => ?_, fun h => ⟨k, h, hx⟩⟩
    have h1 := F.px_inj (by omega) (by omega) (F.mul_right_cancel hx0 (hx.trans hix.symm))
    have h2 := hlt i (by simp [hi])
    have : k = i := by omega
    exact this ▸ hi
  have hG0 : pv (goneL n gs) x = 0 ↔ k ∈ gs := by
    rw [pv_goneL, pr_zero]
    refine ⟨fun ⟨i, hi, hix⟩ => ?_, fun h => ⟨k, h, hx⟩⟩
    have h1 := F.px_inj (by omega) (by omega) (F.mul_right_cancel hx0 (hx.trans hix.symm))
    have h2 := hlt i (by simp [hi])
    have : k = i := by omega
    exact this ▸ hi
  have hdis : k ∈ es → k ∉ gs := fun h1 h2 => by
    have := (List.nodup_append.1 hnd).2.2 k h1 k h2
    exact this rfl
  refine ⟨fun hnI => ?_, fun hI => ?_⟩
  · simp only [List.mem_append, not_or] at hnI
    refine F.mul_ne_zero (fun h0 => ?_) (fun h => hnI.2 (hG0.1 h))
    rw [h0, F.zero_mul] at hv
    exact F.mul_ne_zero (fun h => hnI.1 (hL0.1 h)) (hA h0) hv.symm
  · obtain ⟨f1, f2⟩ := hfor hI
    by_cases hke : k ∈ es
    · have hl := hL0.2 hke
      have hg : pv (goneL n gs) x ≠ 0 := fun h => hdis hke (hG0.1 h)
      rw [hl, F.zero_mul, F.zero_add] at f1 f2
      rw [hl, F.zero_mul] at hv
      have hO : pv (om n e (es ++ gs)) x ≠ 0 := fun h => by
        rw [h, F.mul_zero] at f1
        exact F.mul_ne_zero (he k hke) f2 f1.symm
      have ht : pv t x = 0 := by
        rcases F.mul_eq_zero.1 hv with h | h
        · exact h
        · exact absurd h hO
      have hb := hA ht
      rw [ht, hl, F.zero_mul, F.zero_mul, F.zero_add, F.zero_add] at hsl
      have hL' : pv (slopeL (psi n es)) x ≠ 0 := fun h => f2 (by rw [h, F.mul_zero])
      have ht' : pv (slopeL t) x ≠ 0 := fun h => by
        rw [h, F.mul_zero] at hsl
        exact F.mul_ne_zero hb hL' hsl.symm
      rw [ht, F.zero_mul, F.zero_mul, F.zero_add]
      refine ⟨rfl, F.mul_ne_zero hg ht', F.mul_right_cancel hL' ?_⟩
      rw [F.mul_assoc, ← hsl, ← F.mul_assoc, f1]
      ac_rfl
    · have hkg : k ∈ gs := by simpa [hke] using hI
      have hg := hG0.2 hkg
      have hl : pv (psi n es) x ≠ 0 := fun h => hke (hL0.1 h)
      have ht : pv t x ≠ 0 := fun h => by
        rw [h, F.zero_mul] at hv
        exact F.mul_ne_zero hl (hA h) hv.symm
      rw [hg, F.zero_mul, F.add_zero] at f1 f2
      rw [hg, F.zero_mul, F.mul_zero, F.add_zero]
      have hG' : pv (slopeL (goneL n gs)) x ≠ 0 := fun h => f2 (by rw [h, F.mul_zero])
      refine ⟨rfl, F.mul_ne_zero ht hG', F.mul_right_cancel hl ?_⟩
      rw [F.mul_assoc, F.mul_comm (pv b x), ← hv, F.mul_left_comm _ (pv t x), f1]
      ac_rfl
end Go.Proofs.Ythejbmjleohlfaa
