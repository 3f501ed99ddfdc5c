/- Peterson's way, as a plain law: the sums without what is gone, and the polynomial that is 0 at the points of what is wrong. -/
import Derived.Test.YtbahelhhkmonmaaEm
namespace Go.Proofs.Ytbahelhhkmonmaa

/-- The quotient by z less a root. -/
def quot : List F → F → List F
  | [], _ => []
  | [_], _ => []
  | _ :: d :: l, x => pv (d :: l) x :: quot (d :: l) x
theorem quot_length (p : List F) (x : F) : (quot p x).length = p.length - 1 := by
  induction p with
  | nil => rfl
  | cons c l ih =>
    cases l with
    | nil => rfl
    | cons d l =>
      rw [quot, List.length_cons, ih]
      simp
theorem quot_value (p : List F) (x y : F) : pv p y = pv p x + (y + x) * pv (quot p x) y := by
  induction p with
  | nil => show (0 : F) = 0 + (y + x) * 0; rw [F.mul_zero, F.add_zero]
  | cons c l ih =>
    cases l with
    | nil => show pv [c] y = pv [c] x + (y + x) * 0; rw [F.mul_zero, F.add_zero, pv_single, pv_single]
    | cons d l =>
      rw [quot, pv, ih]
      show (pv (d :: l) x + (y + x) * pv (quot (d :: l) x) y) * y + c = pv (d :: l) x * x + c + (y + x) * (pv (quot (d :: l) x) y * y + pv (d :: l) x)
      generalize pv (d :: l) x = u
      generalize pv (quot (d :: l) x) y = q
      rw [F.add_mul, F.mul_add, F.mul_assoc (y + x) q y]
      generalize (y + x) * (q * y) = s
      rw [F.add_mul, F.mul_comm y u, F.mul_comm x u]
      generalize u * y = a
      generalize u * x = b
      have e : b + c + (s + (a + b)) = a + s + c := by
        rw [show b + c + (s + (a + b)) = (b + b) + (a + s + c) by ac_rfl, F.add_self, F.zero_add]
      exact e.symm
theorem roots_few (xs : List F) : ∀ p : List F, xs.Nodup → (∀ x ∈ xs, pv p x = 0) → (∃ y, pv p y ≠ 0) → xs.length < p.length := by
  induction xs with
  | nil =>
    rintro p _ _ ⟨y, hy⟩
    cases p with
    | nil => exact absurd rfl hy
    | cons c l => simp
  | cons x xs ih =>
    rintro p hn hz ⟨y, hy⟩
    rw [List.nodup_cons] at hn
    have hx : pv p x = 0 := hz x (by simp)
    have hq : ∀ z, pv p z = (z + x) * pv (quot p x) z := fun z => by rw [quot_value p x z, hx, F.zero_add]
    have := ih (quot p x) hn.2 (fun z hzm => by
      have h1 := hz z (by simp [hzm])
      rw [hq z, F.mul_eq_zero] at h1
      rcases h1 with h1 | h1
      · exact absurd (F.add_eq_zero.1 h1) (fun e => hn.1 (e ▸ hzm))
      · exact h1) ⟨y, fun h => hy (by rw [hq y, h, F.mul_zero])⟩
    rw [quot_length] at this
    rw [List.length_cons]
    omega

/-- The sum of what is wrong, by powers. -/
def tsum (n : Nat) (E : Nat → F) (j : Nat) : F := fsum n (fun i => E i * F.pow (F.px (n - 1 - i)) j)
/-- One place taken out of the sums. -/
def stepL (s : List F) (x : F) : List F := tab (s.length - 1) (fun j => s.getD (j + 1) 0 + x * s.getD j 0)
theorem stepL_tsum (n L : Nat) (E : Nat → F) (x : F) : stepL (tab L (tsum n E)) x = tab (L - 1) (tsum n (fun i => E i * (F.px (n - 1 - i) + x))) := by
  unfold stepL
  rw [tab_length]
  refine tab_congr fun j hj => ?_
  rw [tab_getD _ _ _ (by omega), tab_getD _ _ _ (by omega)]
  unfold tsum
  rw [mul_fsum, ← fsum_add]
  refine fsum_congr fun i _ => ?_
  show _ = E i * (F.px (n - 1 - i) + x) * _
  rw [F.pow_succ, F.mul_add, F.add_mul]
  congr 1
  · ac_rfl
  · ac_rfl
def modL (n : Nat) (gs : List Nat) (s : List F) : List F := gs.foldl (fun s g => stepL s (F.px (n - 1 - g))) s
theorem modL_take (n : Nat) {gs : List Nat} {k : Nat} (h : k < gs.length) (s : List F) : modL n (gs.take (k + 1)) s = stepL (modL n (gs.take k) s) (F.px (n - 1 - gs.getD k 0)) := by
  rw [List.take_succ_eq_append_getElem h, modL, List.foldl_append, List.getD, List.getElem?_eq_getElem h]
  rfl
theorem modL_nil (n : Nat) (gs : List Nat) : modL n gs [] = [] := by
  induction gs with
  | nil => rfl
  | cons g gs ih => exact ih
theorem modL_stop (n : Nat) (gs : List Nat) (k : Nat) (s : List F) (h : modL n (gs.take k) s = []) : modL n gs s = [] := by
  have e : modL n gs s = modL n (gs.drop k) (modL n (gs.take k) s) := by unfold modL; rw [← List.foldl_append, List.take_append_drop]
  rw [e, h, modL_nil]
def gE (n : Nat) (gs : List Nat) (E : Nat → F) : Nat → F := gs.foldl (fun E g => fun i => E i * (F.px (n - 1 - i) + F.px (n - 1 - g))) E
theorem modL_tsum (n : Nat) (gs : List Nat) : ∀ (L : Nat) (E : Nat → F), modL n gs (tab L (tsum n E)) = tab (L - gs.length) (tsum n (gE n gs E)) := by
  induction gs with
  | nil => intro L E; rfl
  | cons g gs ih =>
    intro L E
    show modL n gs (stepL (tab L (tsum n E)) (F.px (n - 1 - g))) = _
    rw [stepL_tsum, ih, List.length_cons, Nat.sub_sub, Nat.add_comm 1]
    rfl
theorem gE_zero {n : Nat} (hn : n ≤ 255) (gs : List Nat) : ∀ (E : Nat → F), (∀ g ∈ gs, g < n) → ∀ i, i < n → (gE n gs E i = 0 ↔ E i = 0 ∨ i ∈ gs) := by
  induction gs with
  | nil => intro E _ i _; simp [gE]
  | cons g gs ih =>
    intro E hlt i hi
    show gE n gs (fun i => E i * (F.px (n - 1 - i) + F.px (n - 1 - g))) i = 0 ↔ _
    rw [ih _ (fun g hg => hlt g (by simp [hg])) i hi, F.mul_eq_zero, F.add_eq_zero, List.mem_cons]
    have hg := hlt g (by simp)
    constructor
    · rintro ((h | h) | h)
      · exact .inl h
      · have := F.px_inj (by omega) (by omega) h
        exact .inr (.inl (by omega))
      · exact .inr (.inr h)
    · rintro (h | h | h)
      · exact .inl (.inl h)
      · subst h; exact .inl (.inr rfl)
      · exact .inr h
theorem sumsL_tsum {n r : Nat} {z d : List F} (hz : z.length = n) (hd : d.length = n) (hr : Nought d r) : sumsL z r = tab r (tsum n (fun i => d.getD i 0 + z.getD i 0)) := by
  unfold sumsL
  refine tab_congr fun j hj => ?_
  have h := hv_sum2 d z n hd hz (F.px j)
  rw [hr j hj, F.zero_add] at h
  rw [← h, hv_tab]
  exact fsum_congr fun i _ => by rw [px_pow_swap]

/-- The equations for the polynomial that is 0 at the points of what is wrong. -/
def hkF (s : List F) : Nat → Nat → F := fun j k => s.getD (j + k) 0
/-- That polynomial. -/
def loc (e : Nat) (c : Nat → F) : List F := tab e c ++ [1]
theorem pv_loc (e : Nat) (c : Nat → F) (x : F) : pv (loc e c) x = fsum e (fun k => c k * F.pow x k) + F.pow x e := by
  unfold loc
  rw [pv_snoc, pv_tab, tab_length, F.mul_one]
theorem loc_some (e : Nat) (c : Nat → F) (he : e ≤ 60000) : ∃ y, pv (loc e c) y ≠ 0 := by
  refine Classical.byContradiction fun hn => ?_
  have hz : ∀ y, pv (loc e c) y = pv [] y := fun y => Classical.byContradiction fun h => hn ⟨y, h⟩
  have h := pv_ext (a := loc e c) (b := []) (by unfold loc; rw [List.length_append, tab_length]; simp; omega) (by simp) hz e
  have h2 : (loc e c).getD e 0 = 1 := by
    unfold loc
    rw [getD_append_right (by rw [tab_length]; exact Nat.le_refl _), tab_length, Nat.sub_self]
    rfl
  rw [h2] at h
  exact F.zero_ne_one (show (0 : F) = 1 from h.symm)
theorem hk_sol {n L e : Nat} {G c : Nat → F} (he : e ≤ L) : Sol (L - e) e (hkF (tab L (tsum n G))) c ↔ Nought (tab n (fun i => G i * pv (loc e c) (F.px (n - 1 - i)))) (L - e) := by
  have key : ∀ j, j < L - e → (fsum e (fun k => hkF (tab L (tsum n G)) j k * c k) = hkF (tab L (tsum n G)) j e ↔ hv (tab n (fun i => G i * pv (loc e c) (F.px (n - 1 - i)))) (F.px j) = 0) := fun j hj => by
    have e1 : fsum e (fun k => hkF (tab L (tsum n G)) j k * c k) = fsum n (fun i => G i * F.pow (F.px (n - 1 - i)) j * fsum e (fun k => c k * F.pow (F.px (n - 1 - i)) k)) := by
      rw [fsum_congr (g := fun k => fsum n (fun i => G i * F.pow (F.px (n - 1 - i)) j * (c k * F.pow (F.px (n - 1 - i)) k))) (fun k hk => by
        unfold hkF
        rw [tab_getD _ _ _ (by omega), tsum, fsum_mul]
        refine fsum_congr fun i _ => ?_
        rw [F.pow_add]
        ac_rfl)]
      rw [fsum_swap]
      exact fsum_congr fun i _ => by rw [mul_fsum]
    have e2 : hkF (tab L (tsum n G)) j e = fsum n (fun i => G i * F.pow (F.px (n - 1 - i)) j * F.pow (F.px (n - 1 - i)) e) := by
      unfold hkF
      rw [tab_getD _ _ _ (by omega), tsum]
      refine fsum_congr fun i _ => ?_
      rw [F.pow_add, F.mul_assoc]
    have e3 : hv (tab n (fun i => G i * pv (loc e c) (F.px (n - 1 - i)))) (F.px j) = fsum e (fun k => hkF (tab L (tsum n G)) j k * c k) + hkF (tab L (tsum n G)) j e := by
      rw [e1, e2, ← fsum_add, hv_tab]
      refine fsum_congr fun i _ => ?_
      rw [pv_loc, ← F.mul_add, px_pow_swap j (n - 1 - i)]
      ac_rfl
    rw [e3, F.add_eq_zero]
  exact ⟨fun h j hj => (key j hj).1 (h j hj), fun h j hj => (key j hj).2 (h j hj)⟩
theorem hk_roots {n L e : Nat} {G c : Nat → F} {es : List Nat} (hn : n ≤ 255) (h2 : 2 * e ≤ L) (hes : es.length = e) (hlt : ∀ i ∈ es, i < n) (hG : ∀ i, i < n → i ∉ es → G i = 0) (hG2 : ∀ i ∈ es, G i ≠ 0) :
    Sol (L - e) e (hkF (tab L (tsum n G))) c ↔ ∀ i ∈ es, pv (loc e c) (F.px (n - 1 - i)) = 0 := by
  rw [hk_sol (by omega)]
  constructor
  · intro h i hi
    have h3 := nought_few h (by rw [tab_length]; omega) (by
      unfold places
      rw [tab_length]
      have h4 := filter_or (fun i => decide ((tab n (fun i => G i * pv (loc e c) (F.px (n - 1 - i)))).getD i 0 ≠ 0)) (fun i => decide (i ∈ es)) (fun _ => false) (List.range n) (fun i h => by
        simp only [decide_eq_true_eq] at h
        refine .inl (decide_eq_true ?_)
        refine Classical.byContradiction fun hni => h ?_
        rcases Nat.lt_or_ge i n with hin | hin
        · rw [tab_getD _ _ _ hin, hG i hin hni, F.zero_mul]
        · exact getD_out (by rw [tab_length]; exact hin))
      have h5 := filter_mem n es
      have h6 : ((List.range n).filter (fun _ => false)).length = 0 := by simp
      omega) i
    rw [tab_getD _ _ _ (hlt i hi), F.mul_eq_zero] at h3
    rcases h3 with h3 | h3
    · exact absurd h3 (hG2 i hi)
    · exact h3
  · intro h j hj
    rw [hv_tab]
    refine fsum_zero' fun i hi => ?_
    by_cases hm : i ∈ es
    · rw [h i hm, F.mul_zero, F.zero_mul]
    · rw [hG i hi hm, F.zero_mul, F.zero_mul]
theorem points_nodup {n : Nat} (hn : n ≤ 255) {es : List Nat} (hnd : es.Nodup) (hlt : ∀ i ∈ es, i < n) : (es.map (fun i => F.px (n - 1 - i))).Nodup :=
  List.pairwise_map.2 (hnd.imp_of_mem fun {a b} ha hb hne e => hne (by
    have h1 := hlt a ha
    have h2 := hlt b hb
    have := F.px_inj (by omega) (by omega) e
    omega))
theorem hk_unique {n e : Nat} {c c' : Nat → F} {es : List Nat} (hn : n ≤ 255) (hes : es.length = e) (hnd : es.Nodup) (hlt : ∀ i ∈ es, i < n) (he : e ≤ 60000)
    (h : ∀ i ∈ es, pv (loc e c) (F.px (n - 1 - i)) = 0) (h' : ∀ i ∈ es, pv (loc e c') (F.px (n - 1 - i)) = 0) : ∀ k, k < e → c k = c' k := by
  have hz : ∀ y, pv (tab e (fun k => c k + c' k)) y = pv [] y := fun y => by
    refine Classical.byContradiction fun hy => ?_
    have := roots_few (es.map (fun i => F.px (n - 1 - i))) (tab e (fun k => c k + c' k)) (points_nodup hn hnd hlt) (fun x hx => by
      obtain ⟨i, hi, rfl⟩ := List.mem_map.1 hx
      have h1 := h i hi
      have h2 := h' i hi
      rw [pv_loc, F.add_eq_zero] at h1 h2
      rw [pv_tab]
      rw [fsum_congr (g := fun k => c k * F.pow (F.px (n - 1 - i)) k + c' k * F.pow (F.px (n - 1 - i)) k) (fun k _ => F.add_mul _ _ _), fsum_add, h1, h2, F.add_self]) ⟨y, hy⟩
    rw [List.length_map, tab_length] at this
    omega
  intro k hk
  have := pv_ext (a := tab e (fun k => c k + c' k)) (b := []) (by rw [tab_length]; omega) (by simp) hz k
  rw [tab_getD _ _ _ hk] at this
  exact F.add_eq_zero.1 this
theorem hk_only {n e : Nat} {c : Nat → F} {es : List Nat} (hn : n ≤ 255) (hes : es.length = e) (hnd : es.Nodup) (hlt : ∀ i ∈ es, i < n) (he : e ≤ 60000)
    (h : ∀ i ∈ es, pv (loc e c) (F.px (n - 1 - i)) = 0) {i : Nat} (hi : i < n) (h0 : pv (loc e c) (F.px (n - 1 - i)) = 0) : i ∈ es := by
  refine Classical.byContradiction fun hni => ?_
  have := roots_few ((i :: es).map (fun i => F.px (n - 1 - i))) (loc e c) (points_nodup hn (List.nodup_cons.2 ⟨hni, hnd⟩) (fun k hk => by
    rcases List.mem_cons.1 hk with hk | hk
    · rw [hk]; exact hi
    · exact hlt k hk)) (fun x hx => by
    obtain ⟨k, hk, rfl⟩ := List.mem_map.1 hx
    rcases List.mem_cons.1 hk with hk | hk
    · rw [hk]; exact h0
    · exact h k hk) (loc_some e c he)
  rw [List.length_map, List.length_cons, hes] at this
  unfold loc at this
  rw [List.length_append, tab_length] at this
  simp at this
theorem vanish_head (ps : List F) : ∀ g : List F, g.getD 0 0 = 1 → (ps.foldl mulRoot g).getD 0 0 = 1 := by
  induction ps with
  | nil => intro g h; exact h
  | cons p ps ih =>
    intro g h
    refine ih _ ?_
    unfold mulRoot
    rw [tab_getD _ _ _ (by omega), if_pos rfl, F.add_zero, h]
theorem hk_exists {n e : Nat} {es : List Nat} (hes : es.length = e) : ∃ c : Nat → F, ∀ i ∈ es, pv (loc e c) (F.px (n - 1 - i)) = 0 := by
  have hl : (vanish (es.map (fun i => F.px (n - 1 - i)))).length = e + 1 := by
    unfold vanish
    rw [vanish_length, List.length_map, hes]
    simp; omega
  have hh : (vanish (es.map (fun i => F.px (n - 1 - i)))).getD 0 0 = 1 := vanish_head _ [1] rfl
  have hz : ∀ i ∈ es, hv (vanish (es.map (fun i => F.px (n - 1 - i)))) (F.px (n - 1 - i)) = 0 := fun i hi => vanish_zero _ _ [1] (.inr (List.mem_map.2 ⟨i, hi, rfl⟩))
  generalize vanish (es.map (fun i => F.px (n - 1 - i))) = V at hl hh hz
  refine ⟨fun k => V.reverse.getD k 0, fun i hi => ?_⟩
  have e1 : loc e (fun k => V.reverse.getD k 0) = V.reverse := by
    refine ext_getD (by unfold loc; rw [List.length_append, tab_length, List.length_reverse, hl]; rfl) fun j hj => ?_
    unfold loc at hj ⊢
    rw [List.length_append, tab_length] at hj
    rcases Nat.lt_or_ge j e with h | h
    · rw [getD_append_left (by rw [tab_length]; exact h), tab_getD _ _ _ h]
    · have : j = e := by simp at hj; omega
      subst this
      rw [getD_append_right (by rw [tab_length]; exact Nat.le_refl _), tab_length, Nat.sub_self]
      have h3 : V.reverse.getD j 0 = V.getD 0 0 := by
        rw [List.getD, List.getElem?_reverse (by omega), List.getD]
        congr 2
        omega
      rw [h3, hh]
      rfl
  rw [e1, pv_hv, List.reverse_reverse]
  exact hz i hi

/-- The places, beside what is gone, at whose points the polynomial is 0. -/
def locRoots (n e : Nat) (c : Nat → F) (gs : List Nat) (k : Nat) : List Nat := (List.range k).filter (fun i => decide (pv (loc e c) (F.px (n - 1 - i)) = 0 ∧ i ∉ gs))
theorem locRoots_next_yes {n e : Nat} {c : Nat → F} {gs : List Nat} {k : Nat} (h : pv (loc e c) (F.px (n - 1 - k)) = 0) (hk : k ∉ gs) : locRoots n e c gs (k + 1) = locRoots n e c gs k ++ [k] := by
  unfold locRoots
  rw [List.range_succ, List.filter_append, List.filter_cons_of_pos (by simpa using And.intro h hk)]
  rfl
theorem locRoots_next_no {n e : Nat} {c : Nat → F} {gs : List Nat} {k : Nat} (h : ¬ (pv (loc e c) (F.px (n - 1 - k)) = 0 ∧ k ∉ gs)) : locRoots n e c gs (k + 1) = locRoots n e c gs k := by
  unfold locRoots
  rw [List.range_succ, List.filter_append, List.filter_cons_of_neg (by simpa using h), List.filter_nil, List.append_nil]
theorem locRoots_facts (n e : Nat) (c : Nat → F) {gs : List Nat} (hnd : gs.Nodup) (hlt : ∀ g ∈ gs, g < n) (k : Nat) (hk : k ≤ n) : (gs ++ locRoots n e c gs k).Nodup ∧ (∀ i ∈ gs ++ locRoots n e c gs k, i < n) ∧ (locRoots n e c gs k).length ≤ k := by
  unfold locRoots
  refine ⟨List.nodup_append.2 ⟨hnd, List.Nodup.sublist List.filter_sublist List.nodup_range, fun a ha b hb e => ?_⟩, fun i hi => ?_, Nat.le_trans (List.length_filter_le _ _) (by simp)⟩
  · subst e
    have := (List.mem_filter.1 hb).2
    simp only [decide_eq_true_eq] at this
    exact this.2 ha
  · rcases List.mem_append.1 hi with hi | hi
    · exact hlt i hi
    · have := List.mem_range.1 (List.mem_filter.1 hi).1
      omega
/-- The sums that Peterson's way starts from. -/
def petS (n r : Nat) (gs : List Nat) (l : List F) : List F := modL n gs (sumsL (zeroAt l gs) r)
theorem modL_length (n : Nat) (gs : List Nat) : ∀ s : List F, (modL n gs s).length = s.length - gs.length := by
  induction gs with
  | nil => intro s; rfl
  | cons g gs ih =>
    intro s
    show (modL n gs (stepL s (F.px (n - 1 - g)))).length = _
    rw [ih, stepL, tab_length, List.length_cons]
    omega
theorem petS_length (n r : Nat) (gs : List Nat) (l : List F) : (petS n r gs l).length = r - gs.length := by
  unfold petS
  rw [modL_length, sumsL_length]
/-- WITH JUST SO MANY WRONG the equations have just one solution, and its zeros are the places that are wrong. -/
theorem pet_dec {n r e : Nat} {gs : List Nat} {l d : List F} (hn : n ≤ 255) (hl : l.length = n) (hlt : ∀ g ∈ gs, g < n) (h : Dec n r gs l d) (he : unl gs d l n = e) :
    (¬ ∀ x, Sol (r - gs.length - e) e (hkF (petS n r gs l)) x → ∃ y, Sol (r - gs.length - e) e (hkF (petS n r gs l)) y ∧ ∃ k, k < e ∧ y k ≠ x k) ∧
    ∀ c, Sol (r - gs.length - e) e (hkF (petS n r gs l)) c → (locRoots n e c gs n).length = e ∧ Filled n r (gs ++ locRoots n e c gs n) l d := by
  have hz : (zeroAt l gs).length = n := by rw [zeroAt_length, hl]
  obtain ⟨es, hese⟩ : ∃ es, es = (List.range n).filter (fun i => decide (d.getD i 0 ≠ l.getD i 0 ∧ i ∉ gs)) := ⟨_, rfl⟩
  have hes : es.length = e := by rw [hese]; exact he
  have hmem : ∀ i, i ∈ es ↔ i < n ∧ d.getD i 0 ≠ l.getD i 0 ∧ i ∉ gs := fun i => by rw [hese, List.mem_filter, List.mem_range, decide_eq_true_eq]
  have hnd : es.Nodup := by rw [hese]; exact List.Nodup.sublist List.filter_sublist List.nodup_range
  have hlt2 : ∀ i ∈ es, i < n := fun i hi => ((hmem i).1 hi).1
  have hs : petS n r gs l = tab (r - gs.length) (tsum n (gE n gs (fun i => d.getD i 0 + (zeroAt l gs).getD i 0))) := by
    unfold petS
    rw [sumsL_tsum hz h.len h.right, modL_tsum]
  have hfew := h.few
  rw [he] at hfew
  have hG0 := gE_zero hn gs (fun i => d.getD i 0 + (zeroAt l gs).getD i 0) hlt
  have hG : ∀ i, i < n → i ∉ es → gE n gs (fun i => d.getD i 0 + (zeroAt l gs).getD i 0) i = 0 := fun i hi hni => by
    rw [hG0 i hi]
    by_cases hg : i ∈ gs
    · exact .inr hg
    · refine .inl (F.add_eq_zero.2 ?_)
      rw [zeroAt_getD, if_neg hg]
      exact Classical.byContradiction fun hne => hni ((hmem i).2 ⟨hi, hne, hg⟩)
  have hG2 : ∀ i ∈ es, gE n gs (fun i => d.getD i 0 + (zeroAt l gs).getD i 0) i ≠ 0 := fun i hi h0 => by
    obtain ⟨h1, h2, h3⟩ := (hmem i).1 hi
    rcases (hG0 i h1).1 h0 with h4 | h4
    · have h4 := F.add_eq_zero.1 h4
      rw [zeroAt_getD, if_neg h3] at h4
      exact h2 h4
    · exact h3 h4
  rw [hs]
  have hR := fun c => hk_roots (c := c) hn (show 2 * e ≤ r - gs.length by omega) hes hlt2 hG hG2
  have hel : e ≤ 60000 := by have := unl_le gs d l n; omega
  refine ⟨fun hall => ?_, fun c hc => ?_⟩
  · obtain ⟨c, hc⟩ := hk_exists (n := n) hes
    obtain ⟨y, hy, k, hk, hne⟩ := hall c ((hR c).2 hc)
    exact hne (hk_unique hn hes hnd hlt2 hel ((hR y).1 hy) hc k hk)
  · have hv := (hR c).1 hc
    have hroots : locRoots n e c gs n = es := by
      rw [hese]
      unfold locRoots
      refine List.filter_congr fun i hi => ?_
      have hin := List.mem_range.1 hi
      congr 1
      apply propext
      constructor
      · rintro ⟨h1, h2⟩
        exact ⟨((hmem i).1 (hk_only hn hes hnd hlt2 hel hv hin h1)).2.1, h2⟩
      · rintro ⟨h1, h2⟩
        exact ⟨hv i ((hmem i).2 ⟨hin, h1, h2⟩), h2⟩
    rw [hroots]
    refine ⟨hes, h.len, fun i hi => ?_, h.right⟩
    rw [List.mem_append, not_or] at hi
    rcases Nat.lt_or_ge i n with hin | hin
    · exact Classical.byContradiction fun hne => hi.2 ((hmem i).2 ⟨hin, hne, hi.1⟩)
    · rw [getD_out (by rw [h.len]; exact hin), getD_out (by rw [hl]; exact hin)]
/-- What is filled in at few places is decoded. -/
theorem dec_of_filled {n r e : Nat} {gs t : List Nat} {l d : List F} (h : Filled n r (gs ++ t) l d) (ht : t.length ≤ e) (he : 2 * e + gs.length ≤ r) : Dec n r gs l d := by
  refine ⟨h.len, h.right, ?_⟩
  have h1 := filter_or (fun i => decide (d.getD i 0 ≠ l.getD i 0 ∧ i ∉ gs)) (fun i => decide (i ∈ t)) (fun _ => false) (List.range n) (fun i hi => by
    simp only [decide_eq_true_eq] at hi
    refine .inl (decide_eq_true ?_)
    exact Classical.byContradiction fun hni => hi.1 (h.out i (by rw [List.mem_append, not_or]; exact ⟨hi.2, hni⟩)))
  have h2 := filter_mem n t
  have h3 : ((List.range n).filter (fun _ => false)).length = 0 := by simp
  unfold unl
  omega
end Go.Proofs.Ytbahelhhkmonmaa
