/- Rows of one-cell values of any element type that a call has made itself: what it owns, reads, stores, appends. -/
import Derived.Test.YthejbmjleohlfaaOw
namespace Go.Proofs.Ythejbmjleohlfaa
open Go.RowKit

/-- The slice type T with elements of type E, whose nought is z. -/
structure El (T E : TypeId) (z : Value) (bytes : Nat) : Prop where
  under : Try.prog.underlying T = some (.slice E)
  info : (Try.prog.info? E).map (fun i => (i.zero, i.size, i.bytes)) = some (some z, 1, bytes)
  bd : bytes ≤ 24
  zc : z.cells = #[z]

/-- The slice of n values at A is the call's own (from block B on) and reads as vs. -/
def OwnV (E : TypeId) (w : World) (B : Nat) (A : Option Addr) (n c : Nat) (vs : List Value) : Prop := vs.length = n ∧ w.ownsRow B E 1 (.slice A n c) n vs
/-- A slice that reads as vs, in blocks below B. -/
def RdV (w : World) (B : Nat) (A : Option Addr) (vs : List Value) : Prop :=
  0 < vs.length → ∃ b off, A = some ⟨b, off, none⟩ ∧ b < B ∧ ∀ j v, vs[j]? = some v → w.cell? ⟨b, off + j, none⟩ = some v
theorem RdV.nil {w : World} {B : Nat} {A : Option Addr} : RdV w B A [] := fun h => absurd h (by simp)
theorem RdV.below {w w' : World} {B : Nat} {A : Option Addr} {l : List Value} (h : RdV w B A l) (hb : Below B w w') : RdV w' B A l := fun h0 => by
  obtain ⟨b, off, hA, hlt, hc⟩ := h h0
  exact ⟨b, off, hA, hlt, fun j v hj => (hb.cell (p := ⟨b, off + j, none⟩) hlt).trans (hc j v hj)⟩
theorem RdV.drew {w : World} {B : Nat} {A : Option Addr} {l : List Value} (h : RdV w B A l) : RdV w.drew B A l := h
theorem RdV.drewN {w : World} {B : Nat} {A : Option Addr} {l : List Value} (h : RdV w B A l) (k : Nat) : RdV (w.drewN k) B A l := h
theorem RdV.more {w : World} {B B' : Nat} {A : Option Addr} {l : List Value} (h : RdV w B A l) (hB : B ≤ B') : RdV w B' A l := fun h0 => by
  obtain ⟨b, off, hA, hlt, hc⟩ := h h0
  exact ⟨b, off, hA, by omega, hc⟩
theorem RdV.take {w : World} {B : Nat} {A : Option Addr} {l : List Value} (h : RdV w B A l) (k : Nat) : RdV w B A (l.take k) := fun h0 => by
  obtain ⟨b, off, hA, hlt, hc⟩ := h (by rw [List.length_take] at h0; omega)
  refine ⟨b, off, hA, hlt, fun j v hj => hc j v ?_⟩
  rw [List.getElem?_take] at hj
  split at hj
  · exact hj
  · cases hj

section
variable {E : TypeId} {w w' : World} {B n c : Nat} {A : Option Addr} {l : List Value}

theorem OwnV.nil (E : TypeId) (w : World) (B : Nat) : OwnV E w B none 0 0 [] := ⟨rfl, World.ownsRow_nil _ _ _ _⟩
theorem OwnV.len (h : OwnV E w B A n c l) : l.length = n := h.1
theorem OwnV.cap (h : OwnV E w B A n c l) : n ≤ c ∧ c ≤ maxLen := by
  rcases h.2.2 with ⟨hv, h0⟩ | ⟨g, cap, cur, hv, _, _, h1, h2, _⟩
  · injection hv with _ _ hc; subst hc; exact ⟨by omega, by unfold maxLen; omega⟩
  · injection hv with _ _ hc; subst hc; exact ⟨h1, h2⟩
theorem OwnV.form (h : OwnV E w B A n c l) (hn : 0 < n) : ∃ g, A = some ⟨g, 0, none⟩ ∧ B ≤ g ∧ g < w.heap.size := by
  rcases h.2.2 with ⟨_, h0⟩ | ⟨g, cap, cur, hv, hb, hg, _⟩
  · omega
  · injection hv with hA
    refine ⟨g, hA, hb, ?_⟩
    rcases Nat.lt_or_ge g w.heap.size with h | h
    · exact h
    · rw [Array.getElem?_eq_none h] at hg; cases hg
theorem OwnV.alloc (h : OwnV E w B A n c l) (o : Obj) : OwnV E (w.alloc o) B A n c l := ⟨h.1, h.2.alloc o⟩
theorem OwnV.drew (h : OwnV E w B A n c l) : OwnV E w.drew B A n c l := h
theorem OwnV.drewN (h : OwnV E w B A n c l) (k : Nat) : OwnV E (w.drewN k) B A n c l := h
theorem ownV_block (h : w.ownsRow B E 1 (.slice A n c) n l) {S : Nat} (hS : ∀ g, A = some ⟨g, 0, none⟩ → g < S) (hb : Below S w w') : w'.ownsRow B E 1 (.slice A n c) n l := by
  refine ⟨h.1, ?_⟩
  rcases h.2 with h2 | ⟨g, cap, cur, hv, hbase, hg, h3⟩
  · exact .inl h2
  · injection hv with hA _ hc
    refine .inr ⟨g, cap, cur, by rw [hA, hc], hbase, ?_, h3⟩
    rw [hb.block g (hS g hA)]; exact hg
theorem OwnV.blk (h : OwnV E w B A n c l) {g : Nat} (hA : A = some ⟨g, 0, none⟩) : g < w.heap.size := by
  rcases h.2.2 with ⟨hv, _⟩ | ⟨g', cap, cur, hv, _, hg, _⟩
  · injection hv with hv; rw [hA] at hv; cases hv
  · injection hv with hv; rw [hA] at hv; injection hv with hv; injection hv with hv; subst hv
    rcases Nat.lt_or_ge g w.heap.size with h | h
    · exact h
    · rw [Array.getElem?_eq_none h] at hg; cases hg
theorem OwnV.below (h : OwnV E w B A n c l) (hb : Below w.heap.size w w') : OwnV E w' B A n c l := ⟨h.1, ownV_block h.2 (fun _ hA => h.blk hA) hb⟩
theorem OwnV.below' {S : Nat} (h : OwnV E w B A n c l) (hS : ∀ g, A = some ⟨g, 0, none⟩ → g < S) (hb : Below S w w') : OwnV E w' B A n c l := ⟨h.1, ownV_block h.2 hS hb⟩
theorem OwnV.cell {g : Nat} (h : OwnV E w B (some ⟨g, 0, none⟩) n c l) {j : Nat} {v : Value} (hj : l[j]? = some v) : w.cell? ⟨g, j, none⟩ = some v := by
  have hlt : j < l.length := by
    rcases Nat.lt_or_ge j l.length with h | h
    · exact h
    · rw [List.getElem?_eq_none h] at hj; cases hj
  rw [h.2.cellAt j (by have := h.1; omega), hj]
theorem OwnV.frozen {g : Nat} (h : OwnV E w B (some ⟨g, 0, none⟩) n c l) (j : Nat) : w.frozen? ⟨g, j, none⟩ = false := h.2.frozenAt j
theorem OwnV.store {g : Nat} (h : OwnV E w B (some ⟨g, 0, none⟩) n c l) (j : Nat) (v : Value) : OwnV E (w.setCell ⟨g, j, none⟩ v) B (some ⟨g, 0, none⟩) n c (l.set j v) :=
  ⟨by rw [List.length_set]; exact h.1, (h.2.stored j v).1⟩
theorem OwnV.far {g : Nat} (h : OwnV E w B (some ⟨g, 0, none⟩) n c l) {p : Addr} (hp : g ≠ p.block) (u : Value) : OwnV E (w.setCell p u) B (some ⟨g, 0, none⟩) n c l := by
  refine ⟨h.1, h.2.1, ?_⟩
  rcases h.2.2 with h2 | ⟨g', cap, cur, hv, hbase, hg, h3⟩
  · exact .inl h2
  · have hv2 := hv
    injection hv2 with hA
    injection hA with hA; injection hA with hA
    refine .inr ⟨g', cap, cur, hv, hbase, ?_, h3⟩
    rw [Below.heap_setCell w p u g' (by rw [← hA]; exact hp)]; exact hg
theorem OwnV.set_far {p : Addr} (h : OwnV E w B A n c l) (hp : p.block < B) (u : Value) : OwnV E (w.setCell p u) B A n c l := by
  refine ⟨h.1, h.2.1, ?_⟩
  rcases h.2.2 with h2 | ⟨g', cap, cur, hv, hbase, hg, h3⟩
  · exact .inl h2
  · refine .inr ⟨g', cap, cur, hv, hbase, ?_, h3⟩
    rw [Below.heap_setCell w p u g' (by omega)]; exact hg
theorem OwnV.less {B' : Nat} (h : OwnV E w B A n c l) (hB : B' ≤ B) : OwnV E w B' A n c l := by
  refine ⟨h.1, h.2.1, ?_⟩
  rcases h.2.2 with h | ⟨g', cap, cur, hv, hb, h⟩
  · exact .inl h
  · exact .inr ⟨g', cap, cur, hv, Nat.le_trans hB hb, h⟩
theorem OwnV.rd (h : OwnV E w B A n c l) : RdV w w.heap.size A l := fun h0 => by
  obtain ⟨g, rfl, _, hlt⟩ := h.form (by rw [← h.1]; exact h0)
  exact ⟨g, 0, rfl, hlt, fun j v hj => by rw [Nat.zero_add]; exact h.cell hj⟩
theorem OwnV.lit (w : World) (B : Nat) (l : List Value) (cs : Array Value) (hB : B ≤ w.heap.size) (hn : l.length ≤ 100000000) (hcs : cs.toList = l) :
    OwnV E (w.alloc (.cells cs E)) B (some ⟨w.heap.size, 0, none⟩) l.length l.length l := by
  refine ⟨rfl, ?_⟩
  have hsz : cs.size = l.length * 1 := by rw [← Array.length_toList, hcs, Nat.mul_one]
  have := World.ownsRow_lit (e := E) (size := 1) w cs l.length hB (by unfold maxLen; omega) hsz
  rw [hcs] at this
  exact this
end
theorem Own.toV {w : World} {B n c : Nat} {A : Option Addr} {l : List F} (h : Own w B A n c l) : OwnV 71 w B A n c (l.map fv) := ⟨by rw [List.length_map]; exact h.1, h.2⟩
theorem Own.ofV {w : World} {B n c : Nat} {A : Option Addr} {l : List F} (h : OwnV 71 w B A n c (l.map fv)) : Own w B A n c l := ⟨by have := h.1; rwa [List.length_map] at this, h.2⟩

set_option maxRecDepth 100000 in
theorem wpList_mkV {T E : TypeId} {z : Value} {bytes : Nat} (el : El T E z bytes) {ops : Array Oper} {rest : List Oper} {o : Oper} {a : Act} {Q : Exit → Act → World → Prop} (w : World)
    (hg : o.guard = none) (l c : Operand) (hop : o.op = Op.makeSlice T l c)
    (B : Nat) (L C : Int) (n : Nat) (hl : a.eval l = .int .i64 L) (hc : a.eval c = .int .i64 C) (hL : L = (n : Int)) (hC : C = (n : Int)) (b2 : n ≤ 100000000) (b4 : B ≤ w.heap.size)
    (hK : ∀ w', OwnV E w' B (some ⟨w.heap.size, 0, none⟩) n n (List.replicate n z) → w.grownBy w' none → wpList Try.prog ops Q rest (a.put o.dst (.slice (some ⟨w.heap.size, 0, none⟩) n n)) w') :
    wpList Try.prog ops Q (o :: rest) a w := by
  obtain ⟨i0, hi0, hz0, hz1, hz2⟩ := info_parts el.info
  have hbd := el.bd
  refine wpList_make_full w hg l c T hop B E i0 z 1 el.under hi0 hz0 hz1 .i64 .i64 L C n hl hc hL hC ?_ ?_ b4 fun w' h1 h2 => hK w' ⟨List.length_replicate, ?_⟩ h2
  · rw [hz2]; exact Nat.le_trans (Nat.mul_le_mul hbd b2) (by decide)
  · unfold maxLen; omega
  · have e : (madeCells z.cells (n * 1)).toList = List.replicate n z := by rw [el.zc, toList_madeCells_one, Nat.mul_one]
    rw [← e]; exact h1

set_option maxRecDepth 100000 in
theorem wpList_pushV {T E : TypeId} {z : Value} {bytes : Nat} (el : El T E z bytes) {ops : Array Oper} {rest : List Oper} {o : Oper} {a : Act} {Q : Exit → Act → World → Prop} (w : World)
    (hgd : o.guard = none) (s x : Operand) (ho : o.op = .call { callee := .builtin .append, args := #[s, x], argTypes := #[T, T] })
    (B : Nat) (A : Option Addr) (n c : Nat) (l : List Value) (hs : a.eval s = .slice A n c) (hown : OwnV E w B A n c l)
    (g m : Nat) (v : Value) (hv : v.oneCell' = true) (hx : a.eval x = .slice (some ⟨g, 0, none⟩) 1 m) (hcell : w.cell? ⟨g, 0, none⟩ = some v) (hn : n ≤ 100000000) (hB : B ≤ w.heap.size)
    (h : ∀ A' c' w', OwnV E w' B A' (n + 1) c' (l ++ [v]) → Below B w w' → w.grownBy w' (Value.slice A n c).ownBlock → wpList Try.prog ops Q rest (a.put o.dst (.slice A' (n + 1) c')) w') :
    wpList Try.prog ops Q (o :: rest) a w := by
  obtain ⟨i0, hi0, hz0, hz1, hz2⟩ := info_parts el.info
  have hbd := el.bd
  refine wpList_append_own w hgd s x T ho B E i0 z 1 bytes el.under hi0 hz0 hz1 hz2 (by rw [el.zc]; rfl) (by decide) _ n _ hs hown.2 ⟨g, 0, none⟩ 1 m [v] hx rfl ?_ ?_ ?_ ?_ hB ?_
  · intro j u hu
    cases j with
    | zero => simp at hu; subst hu; exact hcell
    | succ j => simp at hu
  · intro u hu
    simp at hu; subst hu; exact hv
  · unfold maxLen; omega
  · exact Nat.le_trans (Nat.mul_le_mul (show n + 1 ≤ 100000001 by omega) hbd) (by decide)
  · intro v' w1 hown' hg hnil
    obtain ⟨A', c', rfl⟩ : ∃ A' c', v' = .slice A' (n + 1) c' := by
      rcases hown'.2 with ⟨_, h0⟩ | ⟨g', cap, cur, hv, _⟩
      · omega
      · exact ⟨_, _, hv⟩
    have hlen := hown.1
    refine h A' c' w1 ⟨by rw [List.length_append, hlen]; rfl, hown'⟩ ((Below.refl _ _).grown hg hB fun k hk => ?_) hg
    cases A with
    | none => cases hk
    | some ad =>
      simp only [Value.ownBlock, Option.some.injEq] at hk
      rcases hown.2.2 with ⟨hv, _⟩ | ⟨g', cap, cur, hv, hb, _⟩
      · cases hv
      · injection hv with hv; injection hv with hv; subst hv; subst hk; exact hb

set_option maxRecDepth 100000 in
theorem wpList_extV {T E : TypeId} {z : Value} {bytes : Nat} (el : El T E z bytes) {ops : Array Oper} {rest : List Oper} {o : Oper} {a : Act} {Q : Exit → Act → World → Prop} (w : World)
    (hgd : o.guard = none) (s x : Operand) (ho : o.op = .call { callee := .builtin .append, args := #[s, x], argTypes := #[T, T] })
    (B : Nat) (A : Option Addr) (n c : Nat) (l : List Value) (hs : a.eval s = .slice A n c) (hown : OwnV E w B A n c l)
    (A2 : Option Addr) (m c2 S : Nat) (src : List Value) (hone : ∀ u ∈ src, u.oneCell' = true) (hx : a.eval x = .slice A2 m c2) (hm : src.length = m) (hrd : RdV w S A2 src) (hn : n + m ≤ 100000000) (hB : B ≤ w.heap.size)
    (h : ∀ A' c' w', OwnV E w' B A' (n + m) c' (l ++ src) → Below B w w' → w.grownBy w' (Value.slice A n c).ownBlock → wpList Try.prog ops Q rest (a.put o.dst (.slice A' (n + m) c')) w') :
    wpList Try.prog ops Q (o :: rest) a w := by
  obtain ⟨i0, hi0, hz0, hz1, hz2⟩ := info_parts el.info
  have hbd := el.bd
  cases A2 with
  | none =>
    have h0 : m = 0 := by
      rcases Nat.eq_zero_or_pos m with h0 | h0
      · exact h0
      · obtain ⟨b, off, e, _⟩ := hrd (by omega)
        cases e
    subst h0
    obtain rfl : src = [] := List.eq_nil_of_length_eq_zero hm
    refine wpList_plain hgd fun K hK => ?_
    have hrun := run_append_none_any (P := Try.prog) w B T o.type E i0 1 el.under hi0 _ n _ hown.2 c2
    unfold Oper.wp
    simp only [execOp, ho, resolve, invoke, builtin, Sem.run_bind, Sem.run_pure, Result.andThen_ok, List.map_toArray, List.map_cons, List.map_nil, hs, hx, hrun]
    exact hK _ _ (h A c w (by rw [List.append_nil]; exact hown) (Below.refl _ _) (World.grownBy.refl w _))
  | some ad =>
    refine wpList_append_own w hgd s x T ho B E i0 z 1 bytes el.under hi0 hz0 hz1 hz2 (by rw [el.zc]; rfl) (by decide) _ n _ hs hown.2 ad m c2 src hx (by rw [hm, Nat.mul_one]) ?_ hone ?_ ?_ hB ?_
    · intro j u hu
      have hjl : j < src.length := by
        rcases Nat.lt_or_ge j src.length with h | h
        · exact h
        · rw [List.getElem?_eq_none h] at hu; cases hu
      obtain ⟨b, off, e2, _, hc⟩ := hrd (by omega)
      injection e2 with e2
      subst e2
      have e3 : (⟨b, off, none⟩ : Addr).add j = ⟨b, off + j, none⟩ := by unfold Addr.add; split <;> simp_all
      rw [e3]; exact hc j u hu
    · unfold maxLen; omega
    · exact Nat.le_trans (Nat.mul_le_mul hn hbd) (by decide)
    · intro v' w1 hown' hg hnil
      obtain ⟨A', c', rfl⟩ : ∃ A' c', v' = .slice A' (n + m) c' := by
        rcases hown'.2 with ⟨hv, h0⟩ | ⟨g', cap, cur, hv, _⟩
        · exact ⟨none, 0, by rw [hv, h0]⟩
        · exact ⟨_, _, hv⟩
      have hlen := hown.1
      refine h A' c' w1 ⟨by rw [List.length_append, hlen, hm], hown'⟩ ((Below.refl _ _).grown hg hB fun k hk => ?_) hg
      cases A with
      | none => cases hk
      | some ad =>
        simp only [Value.ownBlock, Option.some.injEq] at hk
        rcases hown.2.2 with ⟨hv, _⟩ | ⟨g', cap, cur, hv, hb, _⟩
        · cases hv
        · injection hv with hv; injection hv with hv; subst hv; subst hk; exact hb
end Go.Proofs.Ythejbmjleohlfaa
