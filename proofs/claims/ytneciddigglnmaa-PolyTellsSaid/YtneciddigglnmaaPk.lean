/- The walk of the examples that each statement of polynomials asks first; that quotient and rest are the only ones. -/
import Derived.Test.YtneciddigglnmaaPd
import Derived.Test.YtneciddigglnmaaPa
import Derived.Test.YtneciddigglnmaaSame2
namespace Go.Proofs.Ytneciddigglnmaa
open Go.RowKit

theorem div_unique {a b q r q' r' : List F} (h : DivOf a b q r) (h' : DivOf a b q' r') (ha : a.length ≤ 20000) (hb : b.length ≤ 20000) : q = q' ∧ r = r' := by
  have lb := shortL_length b
  have l1 := h.q_length
  have l2 := h'.q_length
  have l3 := h.less
  have l4 := h'.less
  have e : q = q' := by
    have hd : addL q q' = [] := by
      rcases Nat.eq_zero_or_pos (addL q q').length with h0 | h0
      · exact List.eq_nil_of_length_eq_zero h0
      · exfalso
        have hdl := addL_length q q'
        have hrl := addL_length r r'
        have hml := mulL_degree (addL_short q q') (shortL_short b) h0 (by omega)
        have e2 : mulL (addL q q') (shortL b) = addL r r' := by
          refine pv_unique (mulL_short _ _) (addL_short _ _) (by omega) (by omega) fun x => ?_
          rw [pv_mulL, pv_addL, pv_addL, pv_short, F.add_mul]
          have e3 := h.value x
          have e4 := h'.value x
          rw [e4] at e3
          have key : ∀ u v s t : F, u + s = v + t → v + u = t + s := fun u v s t h => by
            have := congrArg (fun z => z + u + t) h
            have e5 : u + s + u + t = t + s := by
              rw [F.add_comm u s, F.add_assoc s u u, F.add_self, F.add_zero, F.add_comm]
            have e6 : v + t + u + t = v + u := by
              rw [F.add_assoc v t u, F.add_comm t u, F.add_assoc, F.add_assoc, F.add_self, F.add_zero]
            rw [e5, e6] at this
            exact this.symm
          exact key _ _ _ _ e3
        rw [e2] at hml
        omega
    refine short_unique h.q_short h'.q_short fun j => ?_
    have := addL_getD q q' j
    rw [hd] at this
    exact F.add_eq_zero.1 this.symm
  subst e
  refine ⟨rfl, pv_unique h.r_short h'.r_short (by omega) (by omega) fun x => ?_⟩
  have e3 := h.value x
  rw [h'.value x] at e3
  exact (F.add_left_cancel e3).symm
theorem div_make {a b q r : List F} (hq : shortL q = q) (hr : shortL r = r) (hl : r.length < (shortL b).length) (hql : q.length ≤ a.length) (h : addR (mulR q b) r = a) : DivOf a b q r :=
  ⟨hq ▸ shortL_short q, hr ▸ shortL_short r, hl, hql, fun x => by rw [← h, pv_addR, pv_mulR]⟩

/-- The number of the field that a whole number stands for. -/
def fn (n : Nat) : F := F.ofNat n
theorem aw_div : DivOf [fn 1, fn 0, fn 1] [fn 1, fn 1] [fn 1, fn 1] [] := div_make (by decide +kernel) (by decide +kernel) (by decide +kernel) (by decide +kernel) (by decide +kernel)
theorem aw_mul : mulL [fn 1, fn 1] [fn 1, fn 1] = [fn 1, fn 0, fn 1] := by decide +kernel
theorem aw_at : pv [fn 3, fn 0, fn 1] (fn 2) = fn 7 := by decide +kernel
theorem aw_slope : slopeL [fn 5, fn 6, fn 7, fn 8] = [fn 6, fn 0, fn 8] := by decide +kernel
theorem aw_of : ofL [fn 2, fn 3] = [fn 6, fn 1, fn 1] := by decide +kernel
theorem aw_z : 0 < (shortL [fn 1, fn 1]).length := by decide +kernel

theorem lit_rd (w : World) (l : List F) (cs : Array Value) (h : cs.toList = l.map fv) (hn : l.length ≤ 1000) : Rd (w.alloc (.cells cs 25)) (w.alloc (.cells cs 25)).heap.size (some ⟨w.heap.size, 0, none⟩) l :=
  (Own.lit w w.heap.size l cs (Nat.le_refl _) (by omega) h).rd
theorem lit1 (w : World) (a : F) (g : Nat) (x : Int) (hx : x = a.nat) (hg : g = w.heap.size) : Rd (w.alloc (.cells #[.int .u16 x] 25)) (w.alloc (.cells #[.int .u16 x] 25)).heap.size (some ⟨g, 0, none⟩) [a] := by
  subst hg hx; exact lit_rd w [a] _ rfl (by simp)
theorem lit2 (w : World) (a b : F) (g : Nat) (x y : Int) (hx : x = a.nat) (hy : y = b.nat) (hg : g = w.heap.size) : Rd (w.alloc (.cells #[.int .u16 x, .int .u16 y] 25)) (w.alloc (.cells #[.int .u16 x, .int .u16 y] 25)).heap.size (some ⟨g, 0, none⟩) [a, b] := by
  subst hg hx hy; exact lit_rd w [a, b] _ rfl (by simp)
theorem lit3 (w : World) (a b c : F) (g : Nat) (x y z : Int) (hx : x = a.nat) (hy : y = b.nat) (hz : z = c.nat) (hg : g = w.heap.size) : Rd (w.alloc (.cells #[.int .u16 x, .int .u16 y, .int .u16 z] 25)) (w.alloc (.cells #[.int .u16 x, .int .u16 y, .int .u16 z] 25)).heap.size (some ⟨g, 0, none⟩) [a, b, c] := by
  subst hg hx hy hz; exact lit_rd w [a, b, c] _ rfl (by simp)
theorem lit4 (w : World) (a b c d : F) (g : Nat) (x y z u : Int) (hx : x = a.nat) (hy : y = b.nat) (hz : z = c.nat) (hu : u = d.nat) (hg : g = w.heap.size) : Rd (w.alloc (.cells #[.int .u16 x, .int .u16 y, .int .u16 z, .int .u16 u] 25)) (w.alloc (.cells #[.int .u16 x, .int .u16 y, .int .u16 z, .int .u16 u] 25)).heap.size (some ⟨g, 0, none⟩) [a, b, c, d] := by
  subst hg hx hy hz hu; exact lit_rd w [a, b, c, d] _ rfl (by simp)
theorem Rd.alloc {w : World} {A : Option Addr} {l : List F} (h : Rd w w.heap.size A l) (o : Obj) : Rd (w.alloc o) (w.alloc o).heap.size A l := (h.below (balloc w o)).more (by simp)
theorem Rd.step0 {w1 w2 : World} {A : Option Addr} {l : List F} (h : Rd w1 w1.heap.size A l) (h2 : Below w1.heap.size w1 w2) : Rd w2 w2.heap.size A l := (h.below h2).more h2.size
theorem Rd.step1 {w1 w2 : World} {o : Obj} {A : Option Addr} {l : List F} (h : Rd w1 w1.heap.size A l) (h2 : Below (w1.alloc o).heap.size (w1.alloc o) w2) : Rd w2 w2.heap.size A l := (h.alloc o).step0 h2
theorem Rd.step2 {w1 w2 : World} {o p : Obj} {A : Option Addr} {l : List F} (h : Rd w1 w1.heap.size A l) (h2 : Below ((w1.alloc o).alloc p).heap.size ((w1.alloc o).alloc p) w2) : Rd w2 w2.heap.size A l := ((h.alloc o).alloc p).step0 h2
theorem at_k (A : Option Addr) (len cap : Nat) (zs : List F) (x : F) (xi : Int) (w : World) (hx : xi = x.nat) (hlen : zs.length = len) (hm : len ≤ 100000) (hrd : Rd w w.heap.size A zs) :
    Calls Try.prog 12 #[.slice A len cap, .int .u16 xi] w fun e W' => e = .returned (.int .u16 (pv zs x).nat) ∧ Below w.heap.size w W' := by
  subst hx
  exact at_any A len cap zs x w hlen hm hrd
theorem step1 {w w1 w2 : World} {o : Obj} (h : Below w.heap.size w w1) (h2 : Below (w1.alloc o).heap.size (w1.alloc o) w2) : Below w.heap.size w w2 := bstep (bstep h (Nat.le_refl _) (balloc w1 o)) (Nat.le_refl _) h2
theorem step2 {w w1 w2 : World} {o p : Obj} (h : Below w.heap.size w w1) (h2 : Below ((w1.alloc o).alloc p).heap.size ((w1.alloc o).alloc p) w2) : Below w.heap.size w w2 := bstep (bstep (bstep h (Nat.le_refl _) (balloc w1 o)) (Nat.le_refl _) (balloc _ p)) (Nat.le_refl _) h2

set_option maxRecDepth 100000 in
set_option maxHeartbeats 8000000 in
theorem awake_any (w : World) :
    Calls Try.prog 10 #[] w fun e w' => e = .returned (.bool true) ∧ Below w.heap.size w w' := by
  go_enter Try.func10, Try.ntmps10
  go_wp2_with fail
  refine (div_ok _ _ 3 2 3 2 [fn 1, fn 0, fn 1] [fn 1, fn 1] _ rfl rfl (by exact Rd.alloc (lit3 w _ _ _ _ _ _ _ rfl rfl rfl (by simp)) _) (by exact lit2 _ _ _ _ _ _ rfl rfl (by simp)) (by omega) (by omega) (by omega) (by omega) aw_z).mono ?_
  rintro e w1 ⟨A1, A2, c1, c2, q, r, rfl, hq, hr, hb, hd⟩
  obtain ⟨rfl, rfl⟩ := div_unique hd aw_div (by simp) (by simp)
  have HB := Lib.hid (step2 (Below.refl w.heap.size w) hb)
  have Q := Lib.hid hq.rd
  clear hq hr hb hd
  go_wp2_with fail
  refine (pmul_any _ _ 2 2 2 2 [fn 1, fn 1] [fn 1, fn 1] _ rfl rfl (by exact Rd.alloc (lit2 w1 _ _ _ _ _ rfl rfl (by simp)) _) (by exact lit2 _ _ _ _ _ _ rfl rfl (by simp)) (by omega)).mono ?_
  rw [aw_mul]
  rintro e w2 ⟨A3, c3, rfl, hm, hb⟩
  dsimp only [List.length_cons, List.length_nil]
  replace HB := Lib.hid (step2 HB.out hb)
  replace Q := Lib.hid (Q.out.step2 hb)
  have M := Lib.hid hm.rd
  clear hm hb
  go_wp2_with fail
  refine (same_any A3 _ 3 c3 3 3 _ _ [fn 1, fn 0, fn 1] [fn 1, fn 0, fn 1] _ rfl rfl (by exact M.out.alloc _) (by exact lit3 w2 _ _ _ _ _ _ _ rfl rfl rfl (by simp)) (Nat.le_refl _) (Nat.le_refl _) (by unfold maxLen; omega)).mono ?_
  rw [decide_eq_true rfl]
  rintro e w3 ⟨rfl, hb⟩
  replace HB := Lib.hid (step1 HB.out hb)
  replace Q := Lib.hid (Q.out.step1 hb)
  clear M hb
  go_wp2_with fail
  refine (same_any A1 _ 2 c1 2 2 _ _ [fn 1, fn 1] [fn 1, fn 1] _ rfl rfl (by exact Q.out.alloc _) (by exact lit2 w3 _ _ _ _ _ rfl rfl (by simp)) (Nat.le_refl _) (Nat.le_refl _) (by unfold maxLen; omega)).mono ?_
  rw [decide_eq_true rfl]
  rintro e w4 ⟨rfl, hb⟩
  replace HB := Lib.hid (step1 HB.out hb)
  clear Q hb
  go_wp2_with fail
  refine (at_k _ 3 3 [fn 3, fn 0, fn 1] (fn 2) 2 _ rfl rfl (by omega) (by exact lit3 w4 _ _ _ _ _ _ _ rfl rfl rfl (by simp))).mono ?_
  rw [aw_at, show ((fn 7).nat : Int) = 7 from rfl]
  rintro e w5 ⟨rfl, hb⟩
  replace HB := Lib.hid (step1 HB.out hb)
  clear hb
  go_wp2_with fail
  refine (slope_any _ 4 4 [fn 5, fn 6, fn 7, fn 8] _ rfl (by exact lit4 w5 _ _ _ _ _ _ _ _ _ rfl rfl rfl rfl (by simp)) (by omega) (by omega) (by unfold maxLen; omega)).mono ?_
  rw [aw_slope]
  rintro e w6 ⟨A3, c3, rfl, hm, hb⟩
  dsimp only [List.length_cons, List.length_nil]
  replace HB := Lib.hid (step1 HB.out hb)
  have M := Lib.hid hm.rd
  clear hm hb
  go_wp2_with fail
  refine (same_any A3 _ 3 c3 3 3 _ _ [fn 6, fn 0, fn 8] [fn 6, fn 0, fn 8] _ rfl rfl (by exact M.out.alloc _) (by exact lit3 w6 _ _ _ _ _ _ _ rfl rfl rfl (by simp)) (Nat.le_refl _) (Nat.le_refl _) (by unfold maxLen; omega)).mono ?_
  rw [decide_eq_true rfl]
  rintro e w7 ⟨rfl, hb⟩
  replace HB := Lib.hid (step1 HB.out hb)
  clear M hb
  go_wp2_with fail
  refine (of_any _ 2 2 [fn 2, fn 3] _ rfl (by exact lit2 w7 _ _ _ _ _ rfl rfl (by simp)) (by omega)).mono ?_
  rw [aw_of]
  rintro e w8 ⟨A4, c4, rfl, hm, hb⟩
  dsimp only [List.length_cons, List.length_nil]
  replace HB := Lib.hid (step1 HB.out hb)
  have M := Lib.hid hm.rd
  clear hm hb
  go_wp2_with fail
  refine (same_any A4 _ 3 c4 3 3 _ _ [fn 6, fn 1, fn 1] [fn 6, fn 1, fn 1] _ rfl rfl (by exact M.out.alloc _) (by exact lit3 w8 _ _ _ _ _ _ _ rfl rfl rfl (by simp)) (Nat.le_refl _) (Nat.le_refl _) (by unfold maxLen; omega)).mono ?_
  rw [decide_eq_true rfl]
  rintro e w9 ⟨rfl, hb⟩
  replace HB := Lib.hid (step1 HB.out hb)
  clear M hb
  go_wp2_with fail
  go_ret
  exact ⟨rfl, HB.out⟩
end Go.Proofs.Ytneciddigglnmaa
