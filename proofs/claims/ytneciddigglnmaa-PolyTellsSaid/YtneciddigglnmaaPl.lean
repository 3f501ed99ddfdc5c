/- Laws of polynomials over the field: what stands on sums, products, shortening. -/
import Derived.Test.YtneciddigglnmaaPk
namespace Go.Proofs.Ytneciddigglnmaa
open Go.RowKit

theorem mulL_shortL (a b : List F) (h : a.length + b.length ≤ 60000) : mulL a b = mulL (shortL a) (shortL b) := by
  have h1 := shortL_length a
  have h2 := shortL_length b
  have h3 := mulL_length a b
  have h4 := mulL_length (shortL a) (shortL b)
  exact pv_unique (mulL_short _ _) (mulL_short _ _) (by omega) (by omega) fun x => by rw [pv_mulL, pv_mulL, pv_short, pv_short]
theorem addL_shortL (a b : List F) : addL a b = addL (shortL a) (shortL b) := shortL_same fun j => by rw [addR_getD, addR_getD, shortL_getD, shortL_getD]
theorem mul_none_left (a b : List F) (h : a.length + b.length ≤ 60000) (h0 : (shortL a).length = 0) : (mulL a b).length = 0 := by
  rw [mulL_shortL a b h, List.eq_nil_of_length_eq_zero h0, nil_mulL]; rfl
theorem mul_none_right (a b : List F) (h : a.length + b.length ≤ 60000) (h0 : (shortL b).length = 0) : (mulL a b).length = 0 := by
  rw [mulL_shortL a b h, List.eq_nil_of_length_eq_zero h0, mulL_nil]; rfl
theorem addL_nil_left (b : List F) : addL [] b = shortL b := shortL_same fun j => by rw [addR_getD]; exact F.zero_add _
theorem addL_nil_right (a : List F) : addL a [] = shortL a := shortL_same fun j => by rw [addR_getD]; exact F.add_zero _
theorem add_none_left (a b : List F) (h0 : (shortL a).length = 0) : (addL a b).length = (shortL b).length := by
  rw [addL_shortL, List.eq_nil_of_length_eq_zero h0, addL_nil_left, shortL_shortL]
theorem add_none_right (a b : List F) (h0 : (shortL b).length = 0) : (addL a b).length = (shortL a).length := by
  rw [addL_shortL, List.eq_nil_of_length_eq_zero h0, addL_nil_right, shortL_shortL]
theorem mul_degree (a b : List F) (h : a.length + b.length ≤ 60000) (ha : 0 < (shortL a).length) (hb : 0 < (shortL b).length) : (mulL a b).length = (shortL a).length + (shortL b).length - 1 := by
  rw [mulL_shortL a b h, mulL_degree (shortL_short a) (shortL_short b) ha hb]
theorem add_degree (a b : List F) : (addL a b).length ≤ max (shortL a).length (shortL b).length := by
  rw [addL_shortL]; exact addL_length _ _
theorem add_top {a b : List F} (hb : IsShort b) (h : a.length < b.length) : (addL a b).length = b.length := by
  have h1 := addL_length a b
  rcases Nat.lt_or_ge (addL a b).length b.length with hlt | hge
  · exfalso
    have := addL_getD a b (b.length - 1)
    rw [getD_beyond (by omega), getD_beyond (g := a) (by omega), F.zero_add] at this
    exact hb (by omega) this.symm
  · omega
theorem add_degree_ne (a b : List F) (h : (shortL a).length ≠ (shortL b).length) : (addL a b).length = max (shortL a).length (shortL b).length := by
  rw [addL_shortL]
  rcases Nat.lt_or_ge (shortL a).length (shortL b).length with hlt | hge
  · rw [add_top (shortL_short b) hlt]; omega
  · rw [addL_comm, add_top (shortL_short a) (by omega)]; omega
end Go.Proofs.Ytneciddigglnmaa
