/- Volumes and words, plain. -/
import Derived.Test.YthejbmjleohlfaaCm
namespace Go.Proofs.Ythejbmjleohlfaa
set_option linter.unusedVariables false
open Go.RowKit Go.Shelf

/-- Volumes of D rows of S bytes. -/
def Reg (D S : Nat) (v : List (List UInt8)) : Prop := v.length = D ∧ ∀ r, r < D → (v.getD r []).length = S
theorem sym_bytes (x : F) : F.ofNat (256 * (hib x).toNat + (lob x).toNat) = x := by
  have h := x.nat_lt
  have e1 : (hib x).toNat = x.nat / 256 % 256 := UInt8.toNat_ofNat'
  have e2 : (lob x).toNat = x.nat % 256 % 256 := UInt8.toNat_ofNat'
  rw [e1, e2, show 256 * (x.nat / 256 % 256) + x.nat % 256 % 256 = x.nat by omega]
  exact F.ofNat_nat x
theorem byte_sym (x : List UInt8) (p a : Nat) (h : a / 2 = p) : byteOf (sym2 x (2 * p)) a = x.getD a 0 := by
  unfold byteOf sym2
  generalize h1 : x.getD (2 * p) 0 = y1
  generalize h2 : x.getD (2 * p + 1) 0 = y2
  have b1 : y1.toNat < 256 := y1.toNat_lt
  have b2 : y2.toNat < 256 := y2.toNat_lt
  have hn := F.nat_ofNat (n := 256 * y1.toNat + y2.toNat) (by omega)
  by_cases ha : a % 2 = 0
  · rw [if_pos ha]
    unfold hib
    rw [hn, show (256 * y1.toNat + y2.toNat) / 256 = y1.toNat by omega, UInt8.ofNat_toNat, ← h1, show a = 2 * p by omega]
  · rw [if_neg ha]
    unfold lob
    rw [hn, show (256 * y1.toNat + y2.toNat) % 256 = y2.toNat by omega, UInt8.ofNat_toNat, ← h2, show a = 2 * p + 1 by omega]
theorem rowL_getD {S : Nat} {f : Nat → Nat → Nat → UInt8} {i r a : Nat} (h : a < S) : (rowL S f i r).getD a 0 = f i r a := by
  rw [List.getD, rowL, range_get _ h]; rfl
theorem volL_getD {D S : Nat} {f : Nat → Nat → Nat → UInt8} {i r : Nat} (h : r < D) : (volL D S f i).getD r [] = rowL S f i r := by
  rw [List.getD, volL, range_get _ h]; rfl
theorem row_ext {S : Nat} {g : Nat → UInt8} {x : List UInt8} (hx : x.length = S) (h : ∀ a, a < S → g a = x.getD a 0) : (List.range S).map g = x := by
  refine List.ext_getElem (by simp [hx]) fun a h1 h2 => ?_
  have := h a (by simpa using h1)
  rw [List.getD, List.getElem?_eq_getElem h2] at this
  simp [this]
theorem reg_tab (n D S : Nat) (f : Nat → Nat → Nat → UInt8) (i : Nat) : Reg D S (volL D S f i) := ⟨volL_length _ _ _ _, fun r hr => by rw [volL_getD hr, rowL_length]⟩
theorem vol_ext {D S : Nat} {f : Nat → Nat → Nat → UInt8} {i : Nat} {v : List (List UInt8)} (hv : Reg D S v) (h : ∀ r a, r < D → a < S → f i r a = (v.getD r []).getD a 0) : volL D S f i = v := by
  refine List.ext_getElem (by rw [volL_length, hv.1]) fun r h1 h2 => ?_
  have hr : r < D := by rw [volL_length] at h1; exact h1
  have e1 : (volL D S f i)[r] = (volL D S f i).getD r [] := by rw [List.getD, List.getElem?_eq_getElem h1]; rfl
  have e2 : v[r] = v.getD r [] := by rw [List.getD, List.getElem?_eq_getElem h2]; rfl
  rw [e1, e2, volL_getD hr]
  exact row_ext (hv.2 r hr) fun a ha => h r a hr ha
/-- A table of the words of volumes is the volumes. -/
theorem tab_vols {N D S h : Nat} {f : Nat → Nat → List F} {V : List (List (List UInt8))} (hD : 1 ≤ D) (hS : S = 2 * h) (hN : V.length = N) (hV : ∀ i, i < N → Reg D S (V.getD i [])) (hf : ∀ r p, r < D → p < h → f r p = wordL V N r (2 * p)) : tabL N D S (mendF f) = V := by
  refine ext_getD_nil (by rw [tabL_length, hN]) fun i hi => ?_
  rw [tabL_length] at hi
  rw [tabL_get _ _ _ hi]
  have hv := hV i hi
  refine vol_ext hv fun r a hr ha => ?_
  have hp : a / 2 < h := by omega
  unfold mendF
  rw [hf r (a / 2) hr hp, wordL, tab_getD _ _ _ hi, symL, if_pos (by rw [hv.1]; omega), byte_sym _ (a / 2) a rfl]
/-- The symbol of a table. -/
theorem sym_tab {N D S h : Nat} {G : Nat → Nat → Nat → UInt8} {i r p : Nat} {x : F} (hi : i < N) (hD : 1 ≤ D) (hr : r < D) (hp : p < h) (hS : S = 2 * h) (hG : ∀ a, a / 2 = p → G i r a = byteOf x a) : symL (tabL N D S G) i r (2 * p) = x := by
  unfold symL
  rw [tabL_get _ _ _ hi, if_pos (by rw [volL_length]; omega), volL_getD hr]
  unfold sym2
  rw [rowL_getD (by omega), rowL_getD (by omega), hG _ (by omega), hG _ (by omega)]
  unfold byteOf
  rw [if_pos (by omega), if_neg (by omega)]
  exact sym_bytes x
theorem sym_rec {n D S M h : Nat} {L : List (List (List UInt8))} {i r p : Nat} (hn : L.length = n) (hi : i < M) (hD : 1 ≤ D) (hr : r < D) (hp : p < h) (hS : S = 2 * h) : symL (recL D S M L) i r (2 * p) = (checkL (wordL L n r (2 * p)) M).getD i 0 :=
  sym_tab hi hD hr hp hS fun a ha => by unfold recF; rw [ha, hn]
theorem symL_left {L V : List (List (List UInt8))} {i r a : Nat} (h : i < L.length) : symL (L ++ V) i r a = symL L i r a := by
  unfold symL
  rw [show (L ++ V).getD i [] = L.getD i [] by rw [List.getD, List.getD, List.getElem?_append_left h]]
theorem symL_right {L V : List (List (List UInt8))} {i r a : Nat} : symL (L ++ V) (L.length + i) r a = symL V i r a := by
  unfold symL
  rw [show (L ++ V).getD (L.length + i) [] = V.getD i [] by rw [List.getD, List.getD, List.getElem?_append_right (by omega), Nat.add_sub_cancel_left]]
theorem tab_append (n m : Nat) (f : Nat → F) : tab (n + m) f = tab n f ++ tab m (fun i => f (n + i)) := by
  refine ext_getD (by simp [tab_length]) fun j hj => ?_
  rw [tab_length] at hj
  rw [tab_getD _ _ _ hj]
  rcases Nat.lt_or_ge j n with h | h
  · rw [getD_append_left (by rw [tab_length]; exact h), tab_getD _ _ _ h]
  · rw [getD_append_right (by rw [tab_length]; exact h), tab_length, tab_getD _ _ _ (by omega)]
    congr 1
    omega
/-- The word of data volumes and their recovery volumes. -/
theorem word_all {n D S M h : Nat} {L : List (List (List UInt8))} {r p : Nat} (hn : L.length = n) (hD : 1 ≤ D) (hr : r < D) (hp : p < h) (hS : S = 2 * h) : wordL (L ++ recL D S M L) (n + M) r (2 * p) = wordL L n r (2 * p) ++ checkL (wordL L n r (2 * p)) M := by
  unfold wordL
  rw [tab_append]
  congr 1
  · exact tab_congr fun i hi => symL_left (by rw [hn]; exact hi)
  · refine ext_getD (by rw [tab_length, checkL_length]) fun i hi => ?_
    rw [tab_length] at hi
    rw [tab_getD _ _ _ hi]
    have := symL_right (L := L) (V := recL D S M L) (i := i) (r := r) (a := 2 * p)
    rw [hn] at this
    rw [this, sym_rec hn hi hD hr hp hS]
    rfl
theorem word_right {n D S M h : Nat} {L : List (List (List UInt8))} {r p : Nat} (hn : L.length = n) (hD : 1 ≤ D) (hr : r < D) (hp : p < h) (hS : S = 2 * h) : Nought (wordL (L ++ recL D S M L) (n + M) r (2 * p)) M := by
  rw [word_all hn hD hr hp hS]
  exact fun j hj => hv_word _ M j hj
/-- Mend tells what was: if each word is decoded to that. -/
theorem mend_is {D S M h N : Nat} {R k : Int} {V all L' : List (List (List UInt8))} {x : Int} (hm : MendIs D R S M k V L' x) (h0 : mendCode D R S M k V = 0) (hD : 1 ≤ D) (hS : S = 2 * h) (hV : V.length = N) (ha : all.length = N) (hreg : ∀ i, i < N → Reg D S (all.getD i []))
    (hd : ∀ r p, r < D → p < h → Dec N M (goneV V N) (wordL V N r (2 * p)) (wordL all N r (2 * p))) : L' = all ∧ x = 0 := by
  have h96 := (mendCode_zero h0).2.2.2.2
  have e1 : (S : Int).toNat / 2 = h := by omega
  cases hm with
  | bad hb => exact absurd h0 hb
  | made f _ hf =>
    refine ⟨?_, rfl⟩
    rw [hV]
    refine tab_vols hD hS ha hreg fun r p hr hp => ?_
    have hd2 := hf r p hr (by rw [e1]; exact hp)
    rw [hV] at hd2
    exact dec_apart (by omega) hd2 (hd r p hr hp)
  | lost _ r p hr hp hno =>
    rw [hV, e1] at *
    exact absurd (hd r p hr hp) (hno _)
end Go.Proofs.Ythejbmjleohlfaa
