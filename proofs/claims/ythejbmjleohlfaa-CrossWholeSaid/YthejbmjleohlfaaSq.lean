/- A range over a function whose iterator hands over memory of its own: what is handed is told to the body. -/
import Derived.RangeFuncBox
import Derived.RangeFuncNested
import Derived.RangeFuncBound
import Derived.RangeFuncCalls
import Derived.RangeFuncLeaves
import Derived.Shelf.Abstract
import Derived.Shelf.RegionOpen
import Derived.WalkKit
import Derived.OwnWalkIn
import Derived.TacticsInMore
import Derived.LoopNIn
import Derived.LoopIn
namespace Go.Proofs.Ythejbmjleohlfaa
set_option linter.unusedVariables false
open Go.RowKit Go.Shelf

/-- An iterator's contract, where what it hands over is known in the world of its call of yield. -/
def SeqSeen {α : Type} (F : Fence) (n : Nat) (P : Program) (g : Nat) (lb : Array Value) (encs : α → Array Value) (Kp : World → World → Prop) (Seen : List α → α → World → Prop) (S Sp : List α → Prop) (N : Nat) (w : World) : Prop :=
  ∀ (l : Nat) (J Jx : List α → World → Prop) (W : World), Below w.heap.size w W → AbidesFrom W.heap.size J → AbidesFrom W.heap.size Jx →
    (∀ pre x V, J pre V → Seen pre x V → pre.length < N → YieldAt F (n - 1) P l (encs x) V fun e V' =>
      (e = .returned (.bool true) ∧ J (pre ++ [x]) V' ∧ Kp V V') ∨ (e = .returned (.bool false) ∧ Jx (pre ++ [x]) V')) →
    J [] W → CallsIn F n P g (#[.func (.yield l) #[] #[]] ++ lb) W fun e W' => (∃ v, e = .returned v) ∧ ((∃ xs, S xs ∧ J xs W') ∨ (∃ pre, Sp pre ∧ Jx pre W'))

/-- How the body of a round may be left: it goes on, or it returns. -/
def leftSeen {α : Type} (B : Nat) (Kp : World → World → Prop) (I Ir : List α → World → Prop) (xs : List α) (W : World) : Exit → Act → World → Prop
  | .normal, _, V => KeepsFrom B W V ∧ Kp W V ∧ I xs V
  | .ret, _, V => KeepsFrom B W V ∧ Ir xs V
  | _, _, _ => False

/-- A loop's record. -/
def recAt (fn : FuncId) (tmps : Array Value) (ps : Array Tmp) (assign body : Code) (D : Nat) (st : LoopState) (pe : Option Code) : Loop := { state := st, pending := pe, fn, tmps, params := ps, assign, body, defers := D }

section
variable {F : Fence} {n : Nat} {P : Program}
/-- One round: from yield to its answer. -/
theorem seen_round {α : Type} {fn : FuncId} {tmps : Array Value} {ps : Array Tmp} {assign body : Code} {m D l : Nat} {Kp : World → World → Prop} {I Ir : List α → World → Prop} {B : Nat} {W : World} {pre : List α} {x : α} {vs : Array Value} (hfn : F.fn fn)
    (hps : vs.size = ps.size) (hD : B ≤ D) (hDl : D < l) (hKt : ∀ {A B C : World}, Kp A B → Kp B C → Kp A C) (hKb : ∀ (W : World) (l : Nat) (o o' : Obj), B ≤ l → W.heap[l]? = some o → o.isCells = false → o.isWalk = false → Kp W (W.putObj l o'))
    (hI : OwnFrom B I) (hIr : OwnFrom B Ir)
    (hl : W.heap[l]? = some (.loop (recAt fn tmps ps assign body D .ready none))) (hk : W.heap[D]? = some (.deferred (some [])))
    (Ok : Act → World → Prop) (hOk : ∀ a', OwnFrom B (fun (_ : Unit) V => Ok a' V))
    (hassign : ∀ (K : Act → World → Prop), (∀ a' V, KeepsFrom B W V → Kp W V → Ok a' V → K a' V) → assign.wpIn (F.inRound l) m P (Exit.then K (fun _ _ _ => False)) { tmps := (ps.zip vs).foldl (fun t (p, v) => t.setIfInBounds p v) tmps, defers := [] } W)
    (hbody : ∀ a' V, Ok a' V → body.wpIn (F.inRound l) m P (leftSeen B Kp I Ir (pre ++ [x]) V) a' V) :
    YieldAt F m P l vs W fun e V =>
      (e = .returned (.bool true) ∧ (I (pre ++ [x]) V ∧ V.heap[l]? = some (.loop (recAt fn tmps ps assign body D .ready none)) ∧ V.heap[D]? = some (.deferred (some []))) ∧ Kp W V) ∨
      (e = .returned (.bool false) ∧ Ir (pre ++ [x]) V ∧ V.heap[l]? = some (.loop (recAt fn tmps ps assign body D .done (some .ret))) ∧ V.heap[D]? = some (.deferred (some []))) := by
  have hy := run_yield (P := P) (args := vs) hl hps
  refine ⟨fn, _, assign, body, hy, roundIn_of_wpIn hfn (hassign _ ?_)⟩
  intro a' V hkf hkp hok
  have hl1 := hkf.same _ _ (Nat.le_of_lt (Nat.lt_of_le_of_lt hD hDl)) hl rfl
  have hk1 := hkf.same _ _ hD hk rfl
  have hlt : l < V.heap.size := (Array.getElem?_eq_some_iff.1 hl1).1
  refine ⟨_, run_beginRound hl1 rfl, ?_⟩
  have hl2 := World.putObj_heap_same (w := V) (o := .loop (recAt fn tmps ps assign body D .busy none)) hlt
  have hk2 : (V.putObj l (.loop (recAt fn tmps ps assign body D .busy none))).heap[D]? = some (.deferred (some [])) := (World.putObj_heap_other (by omega)).trans hk1
  have hp2 : Kp V (V.putObj l (.loop (recAt fn tmps ps assign body D .busy none))) := hKb _ _ _ _ (by omega) hl1 rfl rfl
  have hbd := hbody _ _ ((hOk a').putObj (s := ()) (.loop (recAt fn tmps ps assign body D .busy none)) hok (by omega) hl1 rfl)
  show body.wpIn _ _ _ _ _ (V.putObj l (.loop (recAt fn tmps ps assign body D .busy none)))
  obtain ⟨V2, hV2⟩ : ∃ V2, V2 = V.putObj l (.loop (recAt fn tmps ps assign body D .busy none)) := ⟨_, rfl⟩
  rw [← hV2] at hl2 hk2 hp2 hbd ⊢
  refine wpIn_mono hbd ?_
  rintro e a3 V3 hp
  have close : ∀ (jump : Option Code), KeepsFrom B V2 V3 → ∃ V4, V4 = V3.putObj l (.loop (recAt fn tmps ps assign body D (if jump.isNone then .ready else .done) jump)) ∧ (Instr.endRound l jump).run P V3 = .ok (.bool jump.isNone) V4 ∧ V3.heap[l]? = some (.loop (recAt fn tmps ps assign body D .busy none)) ∧
      V4.heap[l]? = some (.loop (recAt fn tmps ps assign body D (if jump.isNone then .ready else .done) jump)) ∧ V4.heap[D]? = some (.deferred (some [])) := fun jump hk3 => by
    have hl3 := hk3.same _ _ (by omega) hl2 rfl
    exact ⟨_, rfl, run_endRound (P := P) jump hl3, hl3, World.putObj_heap_same (Array.getElem?_eq_some_iff.1 hl3).1, (World.putObj_heap_other (by omega)).trans (hk3.same _ _ hD hk2 rfl)⟩
  cases e with
  | normal =>
    obtain ⟨hk3, hkp3, hi3⟩ := hp
    obtain ⟨V4, e4, hr, hl3, hl4, hk4⟩ := close none hk3
    subst e4
    exact ⟨_, _, hr, .inl ⟨rfl, ⟨hI.putObj _ hi3 (by omega) hl3 rfl, hl4, hk4⟩, hKt hkp (hKt (hKt hp2 hkp3) (hKb _ _ _ _ (by omega) hl3 rfl rfl))⟩⟩
  | ret =>
    obtain ⟨hk3, hi3⟩ := hp
    obtain ⟨V4, e4, hr, hl3, hl4, hk4⟩ := close (some .ret) hk3
    subst e4
    exact ⟨_, _, hr, .inr ⟨rfl, hIr.putObj _ hi3 (by omega) hl3 rfl, hl4, hk4⟩⟩
  | exit id => exact hp.elim
  | goto t => exact hp.elim
  | panic ch => exact hp.elim
  | outgrown => exact hp.elim

/-- THE LOOP: an invariant between two rounds, and one behind a return. -/
theorem wpIn_seen {α : Type} {g : Operand} {ps : Array Tmp} {assign body : Code} {Q : Exit → Act → World → Prop} {a : Act} {w : World}
    (hro : F.round = none) (h1 : 1 ≤ n) {gf : Nat} {lb : Array Value} (hg : a.eval g = .func (.func gf) #[] lb) (hFg : F.fn gf) (eg : ∀ args w, (callFunc gf args).run P w = .ok (.enter gf args) w)
    {encs : α → Array Value} {Kp : World → World → Prop} {Seen : List α → α → World → Prop} {S Sp : List α → Prop} {N : Nat} {w0 : World} (hseq : SeqSeen F (n - 1) P gf lb encs Kp Seen S Sp N w0)
    (hKt : ∀ {A B C : World}, Kp A B → Kp B C → Kp A C) (hKb : ∀ (W : World) (l : Nat) (o o' : Obj), w.heap.size ≤ l → W.heap[l]? = some o → o.isCells = false → o.isWalk = false → Kp W (W.putObj l o')) (hb0 : Below w0.heap.size w0 w) (hps : ∀ x, (encs x).size = ps.size)
    (I Ir : List α → World → Prop) (hI : OwnFrom w.heap.size I) (hIr : OwnFrom w.heap.size Ir) (h0 : I [] w)
    (Ax : List α → α → Act → World → Prop) (hAx : ∀ pre x a', OwnFrom w.heap.size (fun (_ : Unit) W => Ax pre x a' W))
    (hassign : ∀ (l : Nat) (pre : List α) (x : α) (W : World) (K : Act → World → Prop), I pre W → Seen pre x W → (∀ a' V, KeepsFrom w.heap.size W V → Kp W V → I pre V → Ax pre x a' V → K a' V) →
      assign.wpIn (F.inRound l) (n - 1 - 1) P (Exit.then K (fun _ _ _ => False)) { tmps := (ps.zip (encs x)).foldl (fun t (p, v) => t.setIfInBounds p v) a.tmps, defers := [] } W)
    (hbody : ∀ (l : Nat) (pre : List α) (x : α) (a' : Act) (V : World), I pre V → Ax pre x a' V → pre.length < N → body.wpIn (F.inRound l) (n - 1 - 1) P (leftSeen w.heap.size Kp I Ir (pre ++ [x]) V) a' V)
    (hdone : ∀ (D : Nat) (xs : List α) (W : World), w.heap.size ≤ D → S xs → I xs W → W.heap[D]? = some (.deferred (some [])) → Q .normal { a with defers := { target := .collected D, args := #[] } :: a.defers } W)
    (hstop : ∀ (D : Nat) (pre : List α) (W : World), w.heap.size ≤ D → Sp pre → Ir pre W → W.heap[D]? = some (.deferred (some [])) → Code.ret.wpIn F n P Q { a with defers := { target := .collected D, args := #[] } :: a.defers } W) :
    (Code.rangeFunc g ps assign body).wpIn F n P Q a w := by
  refine wpIn_rangeFunc fun fn hfn => ?_
  rw [hro]
  have hs1 : (w.alloc (.deferred (some []))).heap.size = w.heap.size + 1 := World.size_alloc _ _
  obtain ⟨R, hR⟩ : ∃ R, R = recAt fn a.tmps ps assign body w.heap.size := ⟨_, rfl⟩
  obtain ⟨V1, hV1⟩ : ∃ V1, (w.alloc (.deferred (some []))).alloc (.loop (R .ready none)) = V1 := ⟨_, rfl⟩
  have hL1 : V1.heap[w.heap.size + 1]? = some (.loop (R .ready none)) := by
    rw [← hV1, ← hs1]; exact World.alloc_heap_new _ _
  have hK1 : V1.heap[w.heap.size]? = some (.deferred (some [])) := by
    rw [← hV1]; exact (Below.heap_alloc _ _ _ (by rw [hs1]; omega)).trans (World.alloc_heap_new w _)
  have hI1 : I [] V1 := by rw [← hV1]; exact hI.alloc _ (hI.alloc _ h0)
  have hb1 : Below w0.heap.size w0 V1 := by
    rw [← hV1]; exact hb0.trans ((((Below.refl _ w).alloc (Nat.le_refl _) _).alloc (by rw [hs1]; omega) _).mono hb0.size)
  have hsz : V1.heap.size = w.heap.size + 2 := by rw [← hV1]; simp
  refine ⟨w.heap.size + 1, [{ target := .collected w.heap.size, args := #[] }], V1, { target := .fn (.func gf) lb, args := #[.func (.yield (w.heap.size + 1)) #[] #[]] }, V1, gf, #[.func (.yield (w.heap.size + 1)) #[] #[]] ++ lb, V1, ?_, ?_, ?_, ?_, fun _ => h1, ?_⟩
  · rw [← hV1, hR]; exact run_enterLoop_outer _ _ _ _ _
  · simp only [resolve, hg]
    simp [go_sem]
  · intro f' hf'; simp [Target.leads] at hf'; subst hf'; exact hFg
  · simp [invoke, go_sem, eg]
  · have hnc : ∀ {A : World} {row : Option Nat}, (∀ r, row = some r → V1.heap.size ≤ r ∧ ∃ o : Obj, A.heap[r]? = some o ∧ o.isWalk = true) → (∀ r, row = some r → w.heap.size ≤ r ∧ ∃ o : Obj, A.heap[r]? = some o ∧ o.isCells = false) := fun hr r e => by
      obtain ⟨hB, o, ho, hw⟩ := hr r e
      exact ⟨by omega, o, ho, Obj.not_cells_of_walk hw⟩
    refine (hseq (w.heap.size + 1) (fun pre W => I pre W ∧ W.heap[w.heap.size + 1]? = some (.loop (R .ready none)) ∧ W.heap[w.heap.size]? = some (.deferred (some [])))
      (fun pre W => Ir pre W ∧ W.heap[w.heap.size + 1]? = some (.loop (R .done (some .ret))) ∧ W.heap[w.heap.size]? = some (.deferred (some []))) V1 hb1 ?_ ?_ ?_ ⟨hI1, hL1, hK1⟩).mono ?_
    · exact fun s A B row hs hg' hr => ⟨hI s A B row hs.1 hg' (hnc hr), (grownBy_keeps hg' (fun r e => (hr r e).2) hs.2.1 rfl).trans hs.2.1, (grownBy_keeps hg' (fun r e => (hr r e).2) hs.2.2 rfl).trans hs.2.2⟩
    · exact fun s A B row hs hg' hr => ⟨hIr s A B row hs.1 hg' (hnc hr), (grownBy_keeps hg' (fun r e => (hr r e).2) hs.2.1 rfl).trans hs.2.1, (grownBy_keeps hg' (fun r e => (hr r e).2) hs.2.2 rfl).trans hs.2.2⟩
    · rintro pre x W ⟨hi, hl, hk⟩ hseen hlen
      subst hR
      exact seen_round hfn (hps x) (Nat.le_refl _) (Nat.lt_succ_self _) (fun h k => hKt h k) hKb hI hIr hl hk (fun a' V => I pre V ∧ Ax pre x a' V) (fun a' s A B row hs hg' hr => ⟨hI pre A B row hs.1 hg' hr, hAx pre x a' () A B row hs.2 hg' hr⟩)
        (fun K hK => hassign _ pre x W K hi hseen fun a' V h1 h2 h3 h4 => hK a' V h1 h2 ⟨h3, h4⟩) (fun a' V hok => hbody _ pre x a' V hok.1 hok.2 hlen)
    · rintro e W2 ⟨⟨v, rfl⟩, (⟨xs, hS, hi, hl, hk⟩ | ⟨pre, hSp, hi, hl, hk⟩)⟩
      · exact ⟨none, _, by subst hR; exact run_endLoop (P := P) hl (by simp [recAt]), hdone _ xs _ (Nat.le_refl _) hS (hI.putObj _ hi (by omega) hl rfl) ((World.putObj_heap_other (by omega)).trans hk)⟩
      · exact ⟨some .ret, _, by subst hR; exact run_endLoop (P := P) hl (by simp [recAt]), hstop _ pre _ (Nat.le_refl _) hSp (hIr.putObj _ hi (by omega) hl rfl) ((World.putObj_heap_other (by omega)).trans hk)⟩
end
end Go.Proofs.Ythejbmjleohlfaa
