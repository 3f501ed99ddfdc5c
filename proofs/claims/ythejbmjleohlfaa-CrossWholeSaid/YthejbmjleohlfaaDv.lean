/- The walk of decode.Word: first what is refused. -/
import Derived.Test.YthejbmjleohlfaaDm
import Derived.Test.YthejbmjleohlfaaDx
namespace Go.Proofs.Ythejbmjleohlfaa
open Go.RowKit Go.Shelf

set_option maxRecDepth 100000 in
set_option maxHeartbeats 1000000 in
theorem word_bad (A Ag : Option Addr) (n c ng cg : Nat) (r : Int) (zs : List Int) (w : World) (hz : zs.length = ng) (hm : ng ≤ 1000000) (hI : RdI w w.heap.size Ag zs) (hn : n ≤ 9223372036854775807) (hb : mayB n r zs = false) :
    Calls Try.prog 27 #[.slice A n c, .int .i64 r, .slice Ag ng cg] w fun e w' => e = .returned (.tuple #[.slice none 0 0, .int .i64 1]) ∧ Below w.heap.size w w' := by
  have H := Lib.hid (may_any Ag ng cg zs n r w hz hm hI hn)
  have HB := Lib.hid hb
  clear hz hI hb
  go_enter Try.func27, Try.ntmps27
  go_wp2_with fail
  refine H.out.mono ?_
  rintro e w1 ⟨rfl, hb1⟩
  rw [HB.out]
  go_wp2_with fail
  go_ret2
  exact ⟨rfl, hb1⟩

set_option maxRecDepth 100000 in
set_option maxHeartbeats 1000000 in
theorem word_lost (A Ag : Option Addr) (n c ng cg : Nat) (r : Int) (zs : List Int) (w : World) (hz : zs.length = ng) (hm : ng ≤ 1000000) (hI : RdI w w.heap.size Ag zs) (hn : n ≤ 9223372036854775807) (hb : mayB n r zs = true) (hr : r < (ng : Int)) :
    Calls Try.prog 27 #[.slice A n c, .int .i64 r, .slice Ag ng cg] w fun e w' => e = .returned (.tuple #[.slice none 0 0, .int .i64 54]) ∧ Below w.heap.size w w' := by
  have H := Lib.hid (may_any Ag ng cg zs n r w hz hm hI hn)
  have HB := Lib.hid hb
  clear hz hI hb
  go_enter Try.func27, Try.ntmps27
  go_wp2_with fail
  refine H.out.mono ?_
  rintro e w1 ⟨rfl, hb1⟩
  rw [HB.out]
  go_wp2_with fail
  go_ret2
  exact ⟨rfl, hb1⟩

theorem ieqD {x y : Nat} (h : x = y) : ((x : Int) == (y : Int)) = true := by rw [h]; exact beq_self_eq_true _
theorem ineD {x y : Nat} (h : ¬ x = y) : ((x : Int) == (y : Int)) = false := by rw [beq_eq_false_iff_ne]; omega
set_option maxHeartbeats 400000 in
theorem isk_any (x i Bi : Nat) (w : World) (hc : w.cell? ⟨Bi, 0, none⟩ = some (.int .i64 i)) : Calls Try.prog 44 #[.int .i64 x, .pointer (some ⟨Bi, 0, none⟩)] w fun e w' => e = .returned (.bool ((x : Int) == (i : Int))) ∧ w = w' := by
  go_enter Try.func44, Try.ntmps44
  go_wp2
  go_ret
  exact ⟨rfl, rfl⟩

set_option maxHeartbeats 1000000 in
theorem indexg_any (A : Option Addr) (n c B i Bi : Nat) (gs : List Nat) (w : World) (hl : gs.length = n) (hrd : RdG w B A gs) (hn : n ≤ maxLen) (k : Nat) (hk : k ≤ n) (hz : ∀ j, j < k → ¬ gs.getD j 0 = i) (hnz : k < n → gs.getD k 0 = i) (hc : w.cell? ⟨Bi, 0, none⟩ = some (.int .i64 i)) :
    Calls Try.prog 58 #[.slice A n c, .func (.func 44) #[] #[.pointer (some ⟨Bi, 0, none⟩)]] w fun e w' => e = .returned (.int .i64 (if k < n then (k : Int) else -1)) ∧ w = w' := by
  unfold maxLen at hn
  have HL := Lib.hid hl
  have HRD := Lib.hid hrd
  have HZ := Lib.hid hz
  have HNZ := Lib.hid hnz
  clear hl hrd hz hnz
  go_enter Try.func58, Try.ntmps58
  go_wp2_with fail
  go_loop [8] (fun i => ∃ i' : Nat, i' ≤ k ∧ i = .int .i64 i') (fun i => n - (intOf i).toNat)
  case atStart => exact ⟨0, Nat.zero_le _, rfl⟩
  case round =>
    obtain ⟨j, hj, rfl⟩ := hrel
    by_cases hlt : j < n
    · obtain ⟨b, off, rfl, hb, hcg⟩ := HRD.out (by rw [HL.out]; omega)
      have c1 := hcg j (by rw [HL.out]; exact hlt)
      clear hcg HRD
      by_cases hik : j < k
      · have hx := ineD (HZ.out j hik)
        generalize gs.getD j 0 = x at c1 hx
        go_wp2_with (go_at_call 44; refine (isk_any x i Bi _ hc).mono ?_; rintro e w' ⟨rfl, rfl⟩)
        go_round
        case rel => exact ⟨j + 1, by omega, by go_num⟩
        case measure => simp only [intOf]; omega
      · obtain rfl : j = k := by omega
        have hx := ieqD (HNZ.out hlt)
        generalize gs.getD j 0 = x at c1 hx
        go_wp2_with (go_at_call 44; refine (isk_any x i Bi _ hc).mono ?_; rintro e w' ⟨rfl, rfl⟩)
        go_ret
        exact ⟨rfl, rfl⟩
    · go_wp2
      go_ret
      exact ⟨rfl, rfl⟩
theorem mem_first {gs : List Nat} {i : Nat} (h : i ∈ gs) : ∃ k, k < gs.length ∧ gs.getD k 0 = i ∧ ∀ j, j < k → ¬ gs.getD j 0 = i := by
  induction gs with
  | nil => simp at h
  | cons g gs ih =>
    by_cases hg : g = i
    · exact ⟨0, by simp, hg, fun j hj => by omega⟩
    · have h2 : i ∈ gs := by
        rcases List.mem_cons.1 h with h | h
        · exact absurd h.symm hg
        · exact h
      obtain ⟨k, hk, h3, h4⟩ := ih h2
      refine ⟨k + 1, by simp; omega, h3, fun j hj => ?_⟩
      cases j with
      | zero => exact hg
      | succ j => exact h4 j (by omega)
theorem mem_none {gs : List Nat} {i : Nat} (h : i ∉ gs) (j : Nat) (hj : j < gs.length) : ¬ gs.getD j 0 = i := fun e => h (by
  rw [List.getD, List.getElem?_eq_getElem hj] at e
  exact e ▸ List.getElem_mem hj)
set_option maxHeartbeats 1000000 in
theorem containsg_any (A : Option Addr) (n c B i Bi : Nat) (gs : List Nat) (w : World) (hl : gs.length = n) (hrd : RdG w B A gs) (hn : n ≤ maxLen) (hc : w.cell? ⟨Bi, 0, none⟩ = some (.int .i64 i)) :
    Calls Try.prog 43 #[.slice A n c, .func (.func 44) #[] #[.pointer (some ⟨Bi, 0, none⟩)]] w fun e w' => e = .returned (.bool (decide (i ∈ gs))) ∧ w = w' := by
  by_cases e : i ∈ gs
  · obtain ⟨k, hk, h1, h2⟩ := mem_first e
    have HC := indexg_any A n c B i Bi gs w hl hrd hn k (by omega) h2 (fun _ => h1) hc
    rw [if_pos (by omega)] at HC
    have hk0 : (0 : Int) ≤ (k : Int) := by omega
    have H := Lib.hid HC
    rw [decide_eq_true e]
    clear HC h1 h2 hrd hl e
    go_enter Try.func43, Try.ntmps43
    go_wp2_with (go_at_call 58; refine H.out.mono ?_; rintro e w' ⟨rfl, rfl⟩)
    go_ret
    exact ⟨rfl, rfl⟩
  · have HC := indexg_any A n c B i Bi gs w hl hrd hn n (Nat.le_refl _) (fun j hj => mem_none e j (by omega)) (fun h => by omega) hc
    rw [if_neg (by omega)] at HC
    have H := Lib.hid HC
    rw [decide_eq_false e]
    clear HC hrd hl e
    go_enter Try.func43, Try.ntmps43
    go_wp2_with (go_at_call 58; refine H.out.mono ?_; rintro e w' ⟨rfl, rfl⟩)
    go_ret
    exact ⟨rfl, rfl⟩

theorem WordAt.far {w : World} {g g4 j : Nat} {v : Value} {pf Al Ag : Option Addr} {nl cl r ng cg : Nat} (h : WordAt w g pf Al nl cl r Ag ng cg) (hg : g ≠ g4) : WordAt (w.setCell ⟨g4, j, none⟩ v) g pf Al nl cl r Ag ng cg :=
  have e : ∀ o, (w.setCell ⟨g4, j, none⟩ v).cell? ⟨g, o, none⟩ = w.cell? ⟨g, o, none⟩ := fun o => World.cell?_of_block (a := ⟨g, o, none⟩) (Below.heap_setCell _ ⟨g4, j, none⟩ _ g hg)
  ⟨(e 0).trans h.f, (e 1).trans h.l, (e 2).trans h.r, (e 3).trans h.gone⟩
theorem WordAt.new (w : World) (pf Al Ag : Option Addr) (nl cl r ng cg T : Nat) : WordAt (w.alloc (.cells #[.pointer pf, .slice Al nl cl, .int .i64 r, .slice Ag ng cg] T)) w.heap.size pf Al nl cl r Ag ng cg := by
  constructor <;> go_cell


/-- How many wrong symbols are made right. -/
def mostZ (r : Int) (g : Nat) : Int := if r < (g : Int) then -1 else (r - (g : Int)) / 2
set_option maxHeartbeats 400000 in
theorem most_any (r : Int) (g : Nat) (w : World) (hr : r ≤ 9223372036854775807) :
    Calls Try.prog 45 #[.int .i64 r, .int .i64 g] w fun e w' => e = .returned (.int .i64 (mostZ r g)) ∧ w = w' := by
  by_cases h : r < (g : Int)
  · have e : mostZ r g = -1 := if_pos h
    have HE := Lib.hid e
    clear e
    go_enter Try.func45, Try.ntmps45
    go_wp2
    go_ret
    exact ⟨eint HE.out.symm, rfl⟩
  · have e : mostZ r g = (r - (g : Int)) / 2 := if_neg h
    have HE := Lib.hid e
    have h' : (g : Int) ≤ r := by omega
    have q0 : 0 ≤ r - (g : Int) := by omega
    have q1 : r - (g : Int) ≤ 9223372036854775807 := by omega
    clear e
    go_enter Try.func45, Try.ntmps45
    go_wp2
    go_ret
    exact ⟨eint HE.out.symm, rfl⟩
end Go.Proofs.Ythejbmjleohlfaa
