/- The walks of the statements on the field's sums, products, inverses, powers and logs. -/
import Derived.Test.YtgpfacaooiempaaLw
import Derived.Deep.RegionWith
namespace Go.Proofs.Ytgpfacaooiempaa
open Go.RowKit

theorem feq {x y : F} (h : x = y) : ((x.nat : Int) == (y.nat : Int)) = true := by rw [h]; exact beq_self_eq_true _
theorem fne {x y : F} (h : x = y) : ((x.nat : Int) != (y.nat : Int)) = false := by rw [h]; exact bne_self_eq_false _
theorem feq' {x y : F} (h : ¬ x = y) : ((x.nat : Int) == (y.nat : Int)) = false := by rw [beq_eq_false_iff_ne]; exact fun e => h (F.nat_inj (by omega))
theorem fne' {x y : F} (h : ¬ x = y) : ((x.nat : Int) != (y.nat : Int)) = true := by rw [bne_iff_ne]; exact fun e => h (F.nat_inj (by omega))
theorem feq0 {x : F} (h : x = 0) : ((x.nat : Int) == 0) = true := feq (y := 0) h
theorem feq0' {x : F} (h : ¬ x = 0) : ((x.nat : Int) == 0) = false := feq' (y := 0) h
theorem fne0 {x : F} (h : x = 0) : ((x.nat : Int) != 0) = false := fne (y := 0) h
theorem fne0' {x : F} (h : ¬ x = 0) : ((x.nat : Int) != 0) = true := fne' (y := 0) h
theorem feq1 {x : F} (h : x = 1) : ((x.nat : Int) == 1) = true := feq (y := 1) h
theorem fne1 {x : F} (h : x = 1) : ((x.nat : Int) != 1) = false := fne (y := 1) h

theorem bstep {B : Nat} {a w w' : World} (h : Below B a w) (hB : B ≤ a.heap.size) (hb : Below w.heap.size w w') : Below B a w' := h.trans (hb.mono (Nat.le_trans hB h.size))
theorem balloc (w : World) (o : Obj) : Below w.heap.size w (w.alloc o) := (Below.refl _ _).alloc (Nat.le_refl _) _

theorem px16 : F.px 16 = F.ofNat 4107 := by decide
theorem c_log : F.logn (F.ofNat 4107) = 16 := by rw [← px16]; exact F.logn_px (by omega)
theorem c_back : ((F.px (((-1 : Int) % 65535).toNat)).nat : Int) = 34821 := by
  rw [show ((-1 : Int) % 65535).toNat = 65534 from by decide, ← F.pxf_eq 17 65534 (by decide)]
  decide +kernel

theorem log_c (p : Value) (w : World) : Calls Try.prog 17 #[p, .int .u16 4107] w fun e w' => e = .returned (.tuple #[.int .i64 16, .bool true]) ∧ Below w.heap.size w w' :=
  (log_any p 4107 (F.ofNat 4107) w (by decide +kernel)).mono fun _ _ ⟨he, hw⟩ => ⟨by rw [he, c_log, decide_eq_false (show ¬ F.ofNat 4107 = 0 by decide)]; rfl, hw⟩
theorem mul_c (p : Value) (w : World) : Calls Try.prog 13 #[p, .int .u16 2, .int .u16 32768] w fun e w' => e = .returned (.int .u16 4107) ∧ w = w' :=
  (mul_any p 2 32768 (F.ofNat 2) (F.ofNat 32768) w (by decide +kernel) (by decide +kernel)).mono fun _ _ ⟨he, hw⟩ => ⟨by rw [he]; exact eint (by decide +kernel), hw⟩
theorem mul_d (p : Value) (w : World) : Calls Try.prog 13 #[p, .int .u16 34821, .int .u16 2] w fun e w' => e = .returned (.int .u16 1) ∧ w = w' :=
  (mul_any p 34821 2 (F.ofNat 34821) (F.ofNat 2) w (by decide +kernel) (by decide +kernel)).mono fun _ _ ⟨he, hw⟩ => ⟨by rw [he]; exact eint (by decide +kernel), hw⟩
theorem add_c (p : Value) (w : World) : Calls Try.prog 20 #[p, .int .u16 5, .int .u16 3] w fun e w' => e = .returned (.int .u16 6) ∧ w = w' :=
  (add_any p 5 3 (F.ofNat 5) (F.ofNat 3) w (by decide +kernel) (by decide +kernel)).mono fun _ _ ⟨he, hw⟩ => ⟨by rw [he]; exact eint (by decide +kernel), hw⟩
theorem exp_c (p : Value) (w : World) : Calls Try.prog 15 #[p, .int .i64 16] w fun e w' => e = .returned (.int .u16 4107) ∧ w = w' :=
  (exp_any p 16 w).mono fun _ _ ⟨he, hw⟩ => ⟨by rw [he]; exact eint (by decide +kernel), hw⟩
theorem exp_d (p : Value) (w : World) : Calls Try.prog 15 #[p, .int .i64 (-1)] w fun e w' => e = .returned (.int .u16 34821) ∧ w = w' :=
  (exp_any p (-1) w).mono fun _ _ ⟨he, hw⟩ => ⟨by rw [he]; exact eint c_back, hw⟩
theorem inv_c (p : Value) (w : World) : Calls Try.prog 11 #[p, .int .u16 0] w fun e w' => e = .returned (.tuple #[.int .u16 0, .bool false]) ∧ w = w' :=
  (inv_any p 0 0 w rfl).mono fun _ _ ⟨he, hw⟩ => ⟨by rw [he, F.inv_zero]; rfl, hw⟩

set_option maxHeartbeats 1000000 in
theorem works_any (w : World) : Calls Try.prog 18 #[] w fun e w' => e = .returned (.bool true) ∧ Below w.heap.size w w' := by
  go_enter Try.func18, Try.ntmps18
  go_wp2_with (first
    | (go_at_call 10; refine (new_any _).mono ?_; rintro e w' ⟨rfl, rfl⟩)
    | (go_at_call 17; refine (log_c _ _).mono ?_; rintro e w' ⟨rfl, hb⟩)
    | (go_at_call 11; refine (inv_c _ _).mono ?_; rintro e w' ⟨rfl, rfl⟩)
    | (go_at_call_of 15 (Value.int .i64 16); refine (exp_c _ _).mono ?_; rintro e w' ⟨rfl, rfl⟩)
    | (go_at_call 15; refine (exp_d _ _).mono ?_; rintro e w' ⟨rfl, rfl⟩)
    | (go_at_call_of 13 (Value.int .u16 32768); refine (mul_c _ _).mono ?_; rintro e w' ⟨rfl, rfl⟩)
    | (go_at_call 13; refine (mul_d _ _).mono ?_; rintro e w' ⟨rfl, rfl⟩)
    | (go_at_call 20; refine (add_c _ _).mono ?_; rintro e w' ⟨rfl, rfl⟩))
  go_ret
  exact ⟨rfl, bstep (balloc _ _) (Nat.le_refl _) hb⟩
end Go.Proofs.Ytgpfacaooiempaa
