/- Rows of numbers of the field that a call has made itself: what it owns, reads, stores, appends. -/
import Derived.Test.YthejbmjleohlfaaFw
import Derived.Test.YthejbmjleohlfaaRd
import Derived.OwnWalk
import Derived.StillTailTactics
import Derived.Laws.CopyOwn
import Derived.ArgAppend
import Derived.Deep.QuietTactic
import Derived.BigQuiet
namespace Go.Proofs.Ythejbmjleohlfaa
open Go.RowKit

/-- A number of the field as the model's value. -/
def fv (a : F) : Value := .int .u16 (a.nat : Int)
theorem u16_info : (Try.prog.info? 71).map (fun i => (i.zero, i.size, i.bytes)) = some (some (.int .u16 0), 1, 2) := by kernel_rfl

theorem ebool {a b : Bool} (h : a = b) : Ending.returned (.bool a) = .returned (.bool b) := by rw [h]
theorem feq {x y : F} (h : x = y) : ((x.nat : Int) == (y.nat : Int)) = true := by rw [h]; exact beq_self_eq_true _
theorem fne {x y : F} (h : x = y) : ((x.nat : Int) != (y.nat : Int)) = false := by rw [h]; exact bne_self_eq_false _
theorem feq' {x y : F} (h : ¬ x = y) : ((x.nat : Int) == (y.nat : Int)) = false := by rw [beq_eq_false_iff_ne]; exact fun e => h (F.nat_inj (by omega))
theorem fne' {x y : F} (h : ¬ x = y) : ((x.nat : Int) != (y.nat : Int)) = true := by rw [bne_iff_ne]; exact fun e => h (F.nat_inj (by omega))
theorem feq0 {x : F} (h : x = 0) : ((x.nat : Int) == 0) = true := feq (y := 0) h
theorem feq0' {x : F} (h : ¬ x = 0) : ((x.nat : Int) == 0) = false := feq' (y := 0) h
theorem fne0 {x : F} (h : x = 0) : ((x.nat : Int) != 0) = false := fne (y := 0) h
theorem fne0' {x : F} (h : ¬ x = 0) : ((x.nat : Int) != 0) = true := fne' (y := 0) h
theorem feq1 {x : F} (h : x = 1) : ((x.nat : Int) == 1) = true := feq (y := 1) h
theorem fne1 {x : F} (h : x = 1) : ((x.nat : Int) != 1) = false := fne (y := 1) h

/-- The slice of n numbers at A is the call's own (from block B on) and reads as l. -/
def Own (w : World) (B : Nat) (A : Option Addr) (n c : Nat) (l : List F) : Prop := l.length = n ∧ w.ownsRow B 71 1 (.slice A n c) n (l.map fv)

section
variable {w w' : World} {B n c : Nat} {A : Option Addr} {l : List F}

theorem Own.nil (w : World) (B : Nat) : Own w B none 0 0 [] := ⟨rfl, World.ownsRow_nil _ _ _ _⟩
theorem Own.len (h : Own w B A n c l) : l.length = n := h.1
theorem Own.cap (h : Own w B A n c l) : n ≤ c ∧ c ≤ maxLen := by
  rcases h.2.2 with ⟨hv, h0⟩ | ⟨g, cap, cur, hv, _, _, h1, h2, _⟩
  · injection hv with _ _ hc; subst hc; exact ⟨by omega, by unfold maxLen; omega⟩
  · injection hv with _ _ hc; subst hc; exact ⟨h1, h2⟩
theorem Own.form (h : Own w B A n c l) (hn : 0 < n) : ∃ g, A = some ⟨g, 0, none⟩ ∧ B ≤ g ∧ g < w.heap.size := by
  rcases h.2.2 with ⟨_, h0⟩ | ⟨g, cap, cur, hv, hb, hg, _⟩
  · omega
  · injection hv with hA
    refine ⟨g, hA, hb, ?_⟩
    rcases Nat.lt_or_ge g w.heap.size with h | h
    · exact h
    · rw [Array.getElem?_eq_none h] at hg; cases hg
theorem Own.alloc (h : Own w B A n c l) (o : Obj) : Own (w.alloc o) B A n c l := ⟨h.1, h.2.alloc o⟩
theorem Own.drew (h : Own w B A n c l) : Own w.drew B A n c l := h
theorem Own.drewN (h : Own w B A n c l) (k : Nat) : Own (w.drewN k) B A n c l := h
theorem own_block (h : w.ownsRow B 71 1 (.slice A n c) n (l.map fv)) {S : Nat} (hS : ∀ g, A = some ⟨g, 0, none⟩ → g < S) (hb : Below S w w') : w'.ownsRow B 71 1 (.slice A n c) n (l.map fv) := by
  refine ⟨h.1, ?_⟩
  rcases h.2 with h2 | ⟨g, cap, cur, hv, hbase, hg, h3⟩
  · exact .inl h2
  · injection hv with hA _ hc
    refine .inr ⟨g, cap, cur, by rw [hA, hc], hbase, ?_, h3⟩
    rw [hb.block g (hS g hA)]; exact hg
theorem Own.below (h : Own w B A n c l) (hb : Below w.heap.size w w') : Own w' B A n c l := ⟨h.1, own_block h.2 (fun g hA => by
  by_cases hn : 0 < n
  · obtain ⟨g', e, _, hlt⟩ := h.form hn
    rw [hA] at e; injection e with e; injection e with e; omega
  · have h0 : n = 0 := by omega
    subst h0
    rcases h.2.2 with ⟨hv, _⟩ | ⟨g', cap, cur, hv, _, hg, _⟩
    · injection hv with hv; rw [hA] at hv; cases hv
    · injection hv with hv; rw [hA] at hv; injection hv with hv; injection hv with hv; subst hv
      rcases Nat.lt_or_ge g w.heap.size with h | h
      · exact h
      · rw [Array.getElem?_eq_none h] at hg; cases hg) hb⟩
theorem Own.cell {g : Nat} (h : Own w B (some ⟨g, 0, none⟩) n c l) {j : Nat} (hj : j < n) : w.cell? ⟨g, j, none⟩ = some (.int .u16 ((l.getD j 0).nat : Int)) := by
  rw [h.2.cellAt j (by omega), List.getElem?_map, List.getD, List.getElem?_eq_getElem (by rw [h.1]; exact hj)]
  rfl
theorem Own.frozen {g : Nat} (h : Own w B (some ⟨g, 0, none⟩) n c l) (j : Nat) : w.frozen? ⟨g, j, none⟩ = false := h.2.frozenAt j
theorem Own.store {g : Nat} (h : Own w B (some ⟨g, 0, none⟩) n c l) (j : Nat) (a : F) {z : Int} (hz : z = a.nat) : Own (w.setCell ⟨g, j, none⟩ (.int .u16 z)) B (some ⟨g, 0, none⟩) n c (l.set j a) := by
  subst hz
  refine ⟨by rw [List.length_set]; exact h.1, ?_⟩
  have := (h.2.stored j (fv a)).1
  rw [← List.map_set] at this
  exact this
theorem Own.far {g : Nat} (h : Own w B (some ⟨g, 0, none⟩) n c l) {p : Addr} (hp : g ≠ p.block) (u : Value) : Own (w.setCell p u) B (some ⟨g, 0, none⟩) n c l := by
  refine ⟨h.1, h.2.1, ?_⟩
  rcases h.2.2 with h2 | ⟨g', cap, cur, hv, hbase, hg, h3⟩
  · exact .inl h2
  · have hv2 := hv
    injection hv2 with hA
    injection hA with hA; injection hA with hA
    refine .inr ⟨g', cap, cur, hv, hbase, ?_, h3⟩
    rw [Below.heap_setCell w p u g' (by rw [← hA]; exact hp)]; exact hg
theorem Own.zero {g : Nat} (h : Own w B (some ⟨g, 0, none⟩) n c (List.replicate n 0)) (hn : 0 < n) : w.cell? ⟨g, 0, none⟩ = some (.int .u16 0) := by
  have := h.cell hn
  have e : (List.replicate n (0 : F)).getD 0 0 = 0 := by
    simp only [List.getD, List.getElem?_replicate]; split <;> rfl
  rw [e] at this; exact this
theorem Own.rd (h : Own w B A n c l) : Rd w w.heap.size A l := fun h0 => by
  obtain ⟨g, rfl, _, hlt⟩ := h.form (by rw [← h.1]; exact h0)
  exact ⟨g, 0, rfl, hlt, fun j hj => by rw [Nat.zero_add]; exact h.cell (by rw [← h.1]; exact hj)⟩
theorem Own.of_made (h : w.ownsRow B 71 1 (.slice A n c) n (madeCells (Value.int .u16 0).cells (n * 1)).toList) : Own w B A n c (List.replicate n 0) := by
  refine ⟨List.length_replicate, ?_⟩
  have e : (madeCells (Value.int .u16 0).cells (n * 1)).toList = (List.replicate n (0 : F)).map fv := by
    rw [show (Value.int .u16 0).cells = #[Value.int .u16 0] from rfl, toList_madeCells_one, List.map_replicate, Nat.mul_one]; rfl
  rw [← e]; exact h
end

theorem Own.lit (w : World) (B : Nat) (l : List F) (cs : Array Value) (hB : B ≤ w.heap.size) (hn : l.length ≤ 100000000) (hcs : cs.toList = l.map fv) :
    Own (w.alloc (.cells cs 71)) B (some ⟨w.heap.size, 0, none⟩) l.length l.length l := by
  refine ⟨rfl, ?_⟩
  have hsz : cs.size = l.length * 1 := by rw [← Array.length_toList, hcs, List.length_map, Nat.mul_one]
  have := World.ownsRow_lit (e := 71) (size := 1) w cs l.length hB (by unfold maxLen; omega) hsz
  rw [hcs] at this
  exact this

/-- make([]uint16, n). -/
theorem wpList_mk {ops : Array Oper} {rest : List Oper} {o : Oper} {a : Act} {Q : Exit → Act → World → Prop} (w : World)
    (hg : o.guard = none) (l c : Operand) (hop : o.op = Op.makeSlice 58 l c)
    (B : Nat) (L C : Int) (n : Nat) (hl : a.eval l = .int .i64 L) (hc : a.eval c = .int .i64 C) (hL : L = (n : Int)) (hC : C = (n : Int)) (b2 : n ≤ 100000000) (b4 : B ≤ w.heap.size)
    (hK : ∀ w', Own w' B (some ⟨w.heap.size, 0, none⟩) n n (List.replicate n 0) → w.grownBy w' none → wpList Try.prog ops Q rest (a.put o.dst (.slice (some ⟨w.heap.size, 0, none⟩) n n)) w') :
    wpList Try.prog ops Q (o :: rest) a w := by
  obtain ⟨i0, hi0, hz0, hz1, hz2⟩ := info_parts u16_info
  refine wpList_make_full w hg l c 58 hop B 71 i0 (.int .u16 0) 1 Try.underlying58 hi0 hz0 hz1 .i64 .i64 L C n hl hc hL hC ?_ ?_ b4 fun w' h1 h2 => hK w' (Own.of_made h1) h2
  · rw [hz2]; omega
  · unfold maxLen; omega

theorem Own.heap {w : World} {B n g : Nat} {l : List F} (h : Own w B (some ⟨g, 0, none⟩) n n l) : w.heap[g]? = some (.cells (l.map fv).toArray 71 (0, 0)) ∧ B ≤ g := by
  rcases h.2.2 with ⟨hv, _⟩ | ⟨g', cap, cur, hv, hb, hg, _, _, hs, ht⟩
  · cases hv
  · injection hv with hv _ hc
    injection hv with hv; injection hv with hv; subst hv; subst hc
    refine ⟨?_, hb⟩
    rw [hg, ← ht, List.take_of_length_le (by rw [Array.length_toList, hs]; exact Nat.le_refl _)]
theorem Own.of_heap {w : World} {B n g : Nat} {l : List F} (hl : l.length = n) (hB : B ≤ g) (hn : n ≤ 100000000) (h : w.heap[g]? = some (.cells (l.map fv).toArray 71 (0, 0))) : Own w B (some ⟨g, 0, none⟩) n n l := by
  refine ⟨hl, by rw [List.length_map, hl, Nat.mul_one], .inr ⟨g, n, _, rfl, hB, h, Nat.le_refl _, by unfold maxLen; omega, by simp [hl], ?_⟩⟩
  rw [List.take_of_length_le]
  simp [hl]

/-- copy(row, src): src is not longer. -/
theorem wpList_cp {ops : Array Oper} {rest : List Oper} {o : Oper} {a : Act} {Q : Exit → Act → World → Prop} (w : World)
    (hgd : o.guard = none) (d s : Operand) (ho : o.op = .call { callee := .builtin .copy, args := #[d, s], argTypes := #[58, 58] })
    (B g n : Nat) (l : List F) (hd : a.eval d = .slice (some ⟨g, 0, none⟩) n n) (hown : Own w B (some ⟨g, 0, none⟩) n n l)
    (A : Option Addr) (m c S : Nat) (src : List F) (hs : a.eval s = .slice A m c) (hm : src.length = m) (hrd : Rd w S A src) (hmn : m ≤ n) (hn : n ≤ 100000000)
    (h : ∀ w', Own w' B (some ⟨g, 0, none⟩) n n (src ++ l.drop m) → Below g w w' → wpList Try.prog ops Q rest (a.put o.dst (goInt (src.map fv).length)) w') :
    wpList Try.prog ops Q (o :: rest) a w := by
  obtain ⟨hh, hB⟩ := hown.heap
  refine wpList_copy_splice hgd d s 58 58 ho 71 Try.underlying58 (by kernel_rfl) (some ⟨g, 0, none⟩) A n n m c hd hs g 0 (l.map fv) 71 hh (src.map fv) ?_ ?_ ?_ ?_ g w (Below.refl _ _) (Nat.le_refl _) ?_
  · rw [List.length_map, hm]; exact (Nat.min_eq_left hmn).symm
  · intro h0
    rw [List.length_map] at h0
    obtain ⟨b, off, rfl, _, hc⟩ := hrd h0
    refine ⟨rfl, _, rfl, fun j v hj => ?_⟩
    rw [List.getElem?_map] at hj
    cases e : src[j]? with
    | none => rw [e] at hj; cases hj
    | some x =>
      rw [e] at hj
      injection hj with hj
      subst hj
      have hjl : j < src.length := by
        rcases Nat.lt_or_ge j src.length with h | h
        · exact h
        · rw [List.getElem?_eq_none h] at e; cases e
      have h2 := hc j hjl
      rw [List.getD, e] at h2
      have e3 : (⟨b, off, none⟩ : Addr).add j = ⟨b, off + j, none⟩ := by unfold Addr.add; split <;> simp_all
      rw [e3]; exact h2
  · simp only [List.length_map, hm, hown.1]; omega
  · intro v hv
    obtain ⟨x, _, rfl⟩ := List.mem_map.1 hv
    rfl
  · intro w' hw' hb
    refine h w' (Own.of_heap (by simp [hm, hown.1]; omega) hB hn ?_) hb
    rw [hw'.out]
    congr 2
    unfold splice
    simp [hm]

/-- append(s, x): one number more. -/
theorem wpList_push {ops : Array Oper} {rest : List Oper} {o : Oper} {a : Act} {Q : Exit → Act → World → Prop} (w : World)
    (hgd : o.guard = none) (s x : Operand) (ho : o.op = .call { callee := .builtin .append, args := #[s, x], argTypes := #[58, 58] })
    (B : Nat) (A : Option Addr) (n c : Nat) (l : List F) (hs : a.eval s = .slice A n c) (hown : Own w B A n c l)
    (g m : Nat) (b : F) (z : Int) (hz : z = b.nat) (hx : a.eval x = .slice (some ⟨g, 0, none⟩) 1 m) (hcell : w.cell? ⟨g, 0, none⟩ = some (.int .u16 z)) (hn : n ≤ 100000000) (hB : B ≤ w.heap.size)
    (h : ∀ A' c' w', Own w' B A' (n + 1) c' (l ++ [b]) → Below B w w' → w.grownBy w' (Value.slice A n c).ownBlock → wpList Try.prog ops Q rest (a.put o.dst (.slice A' (n + 1) c')) w') :
    wpList Try.prog ops Q (o :: rest) a w := by
  obtain ⟨i0, hi0, hz0, hz1, hz2⟩ := info_parts u16_info
  subst hz
  refine wpList_append_own w hgd s x 58 ho B 71 i0 (.int .u16 0) 1 2 Try.underlying58 hi0 hz0 hz1 hz2 rfl (by decide) _ n _ hs hown.2 ⟨g, 0, none⟩ 1 m [fv b] hx rfl ?_ ?_ ?_ ?_ hB ?_
  · intro j u hu
    cases j with
    | zero => simp at hu; subst hu; exact hcell
    | succ j => simp at hu
  · intro u hu
    simp at hu; subst hu; rfl
  · unfold maxLen; omega
  · omega
  · intro v' w1 hown' hg hnil
    obtain ⟨A', c', rfl⟩ : ∃ A' c', v' = .slice A' (n + 1) c' := by
      rcases hown'.2 with ⟨_, h0⟩ | ⟨g', cap, cur, hv, _⟩
      · omega
      · exact ⟨_, _, hv⟩
    have hlen := hown.1
    refine h A' c' w1 ⟨by rw [List.length_append, hlen]; rfl, by rw [List.map_append]; exact hown'⟩ ((Below.refl _ _).grown hg hB fun k hk => ?_) hg
    cases A with
    | none => cases hk
    | some ad =>
      simp only [Value.ownBlock, Option.some.injEq] at hk
      rcases hown.2.2 with ⟨hv, _⟩ | ⟨g', cap, cur, hv, hb, _⟩
      · cases hv
      · injection hv with hv; injection hv with hv; subst hv; subst hk; exact hb

set_option maxRecDepth 100000 in
/-- append(s, x) where there is no room: the old row stays as it was. -/
theorem wpList_pushg {ops : Array Oper} {rest : List Oper} {o : Oper} {a : Act} {Q : Exit → Act → World → Prop} (w : World)
    (hgd : o.guard = none) (s x : Operand) (ho : o.op = .call { callee := .builtin .append, args := #[s, x], argTypes := #[58, 58] })
    (B g0 n : Nat) (l : List F) (hs : a.eval s = .slice (some ⟨g0, 0, none⟩) n n) (hown : Own w B (some ⟨g0, 0, none⟩) n n l)
    (g m : Nat) (b : F) (z : Int) (hz : z = b.nat) (hx : a.eval x = .slice (some ⟨g, 0, none⟩) 1 m) (hcell : w.cell? ⟨g, 0, none⟩ = some (.int .u16 z)) (hn : n ≤ 100000000)
    (h : ∀ A' c' w', Own w' w.heap.size A' (n + 1) c' (l ++ [b]) → Below w.heap.size w w' → wpList Try.prog ops Q rest (a.put o.dst (.slice A' (n + 1) c')) w') :
    wpList Try.prog ops Q (o :: rest) a w := by
  obtain ⟨i0, hi0, hz0, hz1, hz2⟩ := info_parts u16_info
  subst hz
  have hlen := hown.1
  refine wpList_append_grows w hgd s x 58 ho 71 i0 (.int .u16 0) 1 2 Try.underlying58 hi0 hz0 hz1 hz2 rfl (by decide) (some ⟨g0, 0, none⟩) n n (l.map fv) hs (fun h => by cases h) (by rw [List.length_map, hlen, Nat.mul_one]) ?_ ⟨g, 0, none⟩ 1 m [fv b] hx rfl ?_ ?_ (by omega) ?_ ?_ ?_
  · intro b' hb' j u hu
    injection hb' with hb'; subst hb'
    exact hown.2.cells (g := g0) rfl j u hu
  · intro j u hu
    cases j with
    | zero => simp at hu; subst hu; exact hcell
    | succ j => simp at hu
  · intro u hu
    simp at hu; subst hu; rfl
  · unfold maxLen; omega
  · omega
  · intro v' w1 hown' hg
    obtain ⟨A', c', rfl⟩ : ∃ A' c', v' = .slice A' (n + 1) c' := by
      rcases hown'.2 with ⟨_, h0⟩ | ⟨g', cap, cur, hv, _⟩
      · omega
      · exact ⟨_, _, hv⟩
    exact h A' c' w1 ⟨by rw [List.length_append, hlen]; rfl, by rw [List.map_append]; exact hown'⟩ ((Below.refl _ _).grown hg (Nat.le_refl _) (by simp))

theorem run_append_none_any {P : Program} (w : World) (base : Nat) (t ty e : TypeId) (i : TypeInfo) (size : Nat) (ht : P.underlying t = some (.slice e)) (hi : P.info? e = some i)
    (v : Value) (n : Nat) (xs : List Value) (hown : w.ownsRow base e size v n xs) (c : Nat) : (Builtin.append_ #[t, t] ty #[v, .slice none 0 c]).run P w = .ok v w := by
  rcases hown.2 with ⟨rfl, rfl⟩ | ⟨g, cap, cur, rfl, _, _, hnc, _⟩
  · simp [Builtin.append_, run_underlying ht, sizeOf, typeInfo, hi, Builtin.lenOf, Builtin.firstCells]
  · simp [Builtin.append_, run_underlying ht, sizeOf, typeInfo, hi, Builtin.lenOf, Builtin.firstCells, hnc, storeCells]

set_option maxRecDepth 100000 in
/-- append(s, src...): a slice that reads as src. -/
theorem wpList_ext {ops : Array Oper} {rest : List Oper} {o : Oper} {a : Act} {Q : Exit → Act → World → Prop} (w : World)
    (hgd : o.guard = none) (s x : Operand) (ho : o.op = .call { callee := .builtin .append, args := #[s, x], argTypes := #[58, 58] })
    (B : Nat) (A : Option Addr) (n c : Nat) (l : List F) (hs : a.eval s = .slice A n c) (hown : Own w B A n c l)
    (A2 : Option Addr) (m c2 S : Nat) (src : List F) (hx : a.eval x = .slice A2 m c2) (hm : src.length = m) (hrd : Rd w S A2 src) (hn : n + m ≤ 100000000) (hB : B ≤ w.heap.size)
    (h : ∀ A' c' w', Own w' B A' (n + m) c' (l ++ src) → Below B w w' → w.grownBy w' (Value.slice A n c).ownBlock → wpList Try.prog ops Q rest (a.put o.dst (.slice A' (n + m) c')) w') :
    wpList Try.prog ops Q (o :: rest) a w := by
  obtain ⟨i0, hi0, hz0, hz1, hz2⟩ := info_parts u16_info
  cases A2 with
  | none =>
    have h0 : m = 0 := by
      rcases Nat.eq_zero_or_pos m with h0 | h0
      · exact h0
      · obtain ⟨b, off, e, _⟩ := hrd (by omega)
        cases e
    subst h0
    obtain rfl : src = [] := List.eq_nil_of_length_eq_zero hm
    refine wpList_plain hgd fun K hK => ?_
    have hrun := run_append_none_any (P := Try.prog) w B 58 o.type 71 i0 1 Try.underlying58 hi0 _ n _ hown.2 c2
    unfold Oper.wp
    simp only [execOp, ho, resolve, invoke, builtin, Sem.run_bind, Sem.run_pure, Result.andThen_ok, List.map_toArray, List.map_cons, List.map_nil, hs, hx, hrun]
    exact hK _ _ (h A c w (by rw [List.append_nil]; exact hown) (Below.refl _ _) (World.grownBy.refl w _))
  | some ad =>
    refine wpList_append_own w hgd s x 58 ho B 71 i0 (.int .u16 0) 1 2 Try.underlying58 hi0 hz0 hz1 hz2 rfl (by decide) _ n _ hs hown.2 ad m c2 (src.map fv) hx (by rw [List.length_map, hm, Nat.mul_one]) ?_ ?_ ?_ ?_ hB ?_
    · intro j u hu
      rw [List.getElem?_map] at hu
      cases e : src[j]? with
      | none => rw [e] at hu; cases hu
      | some y =>
        rw [e] at hu
        injection hu with hu
        subst hu
        have hjl : j < src.length := by
          rcases Nat.lt_or_ge j src.length with h | h
          · exact h
          · rw [List.getElem?_eq_none h] at e; cases e
        obtain ⟨b, off, e2, _, hc⟩ := hrd (by omega)
        injection e2 with e2
        subst e2
        have h2 := hc j hjl
        rw [List.getD, e] at h2
        have e3 : (⟨b, off, none⟩ : Addr).add j = ⟨b, off + j, none⟩ := by unfold Addr.add; split <;> simp_all
        rw [e3]; exact h2
    · intro u hu
      obtain ⟨y, _, rfl⟩ := List.mem_map.1 hu
      rfl
    · unfold maxLen; omega
    · omega
    · intro v' w1 hown' hg hnil
      obtain ⟨A', c', rfl⟩ : ∃ A' c', v' = .slice A' (n + m) c' := by
        rcases hown'.2 with ⟨hv, h0⟩ | ⟨g', cap, cur, hv, _⟩
        · exact ⟨none, 0, by rw [hv, h0]⟩
        · exact ⟨_, _, hv⟩
      have hlen := hown.1
      refine h A' c' w1 ⟨by rw [List.length_append, hlen, hm], by rw [List.map_append]; exact hown'⟩ ((Below.refl _ _).grown hg hB fun k hk => ?_) hg
      cases A with
      | none => cases hk
      | some ad =>
        simp only [Value.ownBlock, Option.some.injEq] at hk
        rcases hown.2.2 with ⟨hv, _⟩ | ⟨g', cap, cur, hv, hb, _⟩
        · cases hv
        · injection hv with hv; injection hv with hv; subst hv; subst hk; exact hb

theorem balloc (w : World) (o : Obj) : Below w.heap.size w (w.alloc o) := (Below.refl _ _).alloc (Nat.le_refl _) _
theorem bstep {B : Nat} {a w w' : World} (h : Below B a w) (hB : B ≤ a.heap.size) (hb : Below w.heap.size w w') : Below B a w' := h.trans (hb.mono (Nat.le_trans hB h.size))

/-- A region that draws its order, whose last operations stand in one row: in the world behind the draw. -/
theorem region_tail {P : Program} {id : Nat} {Q : Exit → Act → World → Prop} {a : Act} {w : World} {l : List Oper} (n : Nat) (hm : P.follows .mixedOrders = true) (hB : Region.lexTailB .any l.toArray n = true)
    (h : wpStill P l.toArray w.drew (fun a' => wpList P l.toArray Q (l.drop n) a' w.drew) (l.take n) a) : (Code.region id l.toArray true).wp P Q a w := wp_region_still_tail n hm hB h

theorem qs {P : Program} {f : FuncId} {args : Array Value} {w : World} {n : Nat} {v : Value}
    (h : Calls P f args (w.drewN n) fun e w' => e = .returned v ∧ w.drewN n = w') : Calls P f args (w.drewN n) fun e w'' => e = .returned v ∧ ∃ m, w'' = w.drewN m :=
  h.mono fun _ _ ⟨he, hm⟩ => ⟨he, n, hm.symm⟩

/-- A quiet call's contract, as 'still' wants it. -/
theorem stillOf {P : Program} {f : FuncId} {args : Array Value} {w : World} {v : Value} (h : Calls P f args w fun e w' => e = .returned v ∧ w = w') : Calls P f args w fun e w'' => e = .returned v ∧ w'' = w :=
  h.mono fun _ _ ⟨he, hw⟩ => ⟨he, hw.symm⟩

theorem getD_set_eq {l : List F} {j : Nat} (a : F) (hj : j < l.length) : (l.set j a).getD j 0 = a := by simp [List.getD, hj]
theorem getD_set_ne {l : List F} {i j : Nat} (a : F) (h : i ≠ j) : (l.set i a).getD j 0 = l.getD j 0 := by simp [List.getD, List.getElem?_set_ne h]
theorem ext_getD {l m : List F} (hl : l.length = m.length) (h : ∀ j, j < l.length → l.getD j 0 = m.getD j 0) : l = m := by
  apply List.ext_getElem hl
  intro j h1 h2
  have := h j h1
  rwa [List.getD, List.getD, List.getElem?_eq_getElem h1, List.getElem?_eq_getElem h2] at this
theorem getD_append_left {l m : List F} {j : Nat} (h : j < l.length) : (l ++ m).getD j 0 = l.getD j 0 := by simp [List.getD, List.getElem?_append_left h]
theorem getD_append_right {l m : List F} {j : Nat} (h : l.length ≤ j) : (l ++ m).getD j 0 = m.getD (j - l.length) 0 := by simp [List.getD, List.getElem?_append_right h]
theorem getD_out {l : List F} {j : Nat} (h : l.length ≤ j) : l.getD j 0 = 0 := by simp [List.getD, List.getElem?_eq_none h]
theorem getD_replicate (n j : Nat) : (List.replicate n (0 : F)).getD j 0 = 0 := by
  simp only [List.getD, List.getElem?_replicate]; split <;> rfl
end Go.Proofs.Ythejbmjleohlfaa
