/- The numbers of the field as the model holds them: what shifts, ands and exclusive ors of them come to. -/
import Derived.Test.YthejbmjleohlfaaGf
import Derived.WalkKit
namespace Go.Proofs.Ythejbmjleohlfaa
open Go.RowKit

theorem F.nat_add (a b : F) : (a + b).nat = a.nat ^^^ b.nat := BitVec.toNat_xor a.bv b.bv
theorem F.bit_nat (a : F) (i : Nat) : a.bit i = a.nat.testBit i := (BitVec.testBit_toNat a.bv).symm
theorem F.bit_zero_nat (a : F) : a.bit 0 = decide (a.nat % 2 = 1) := by rw [F.bit_nat, Nat.testBit_zero]
theorem F.bit_top_nat (a : F) : a.bit 15 = decide (a.nat / 32768 = 1) := by
  have h := a.nat_lt
  rw [F.bit_nat, Nat.testBit_eq_decide_div_mod_eq]
  have : a.nat / 2 ^ 15 % 2 = a.nat / 32768 := by omega
  rw [this]

theorem wrap_u16 (n : Int) : IntKind.u16.wrap n = n % 65536 := by simp [IntKind.wrap, IntKind.bits, IntKind.signed]
theorem bits_xor (a b : F) : bits .xor .u16 (a.nat : Int) (b.nat : Int) = ((a + b).nat : Int) := by
  have h := (a + b).nat_lt
  have e : ∀ x : F, BitVec.ofInt 16 (x.nat : Int) = x.bv := fun x => by
    rw [BitVec.ofInt_natCast]; exact F.ofNat_nat x
  show IntKind.u16.wrap ((BitVec.ofInt 16 (a.nat : Int) ^^^ BitVec.ofInt 16 (b.nat : Int)).toNat : Int) = _
  rw [e, e, wrap_u16]
  show (((a + b).nat : Nat) : Int) % 65536 = _
  omega
theorem bits_xor' {x y : Int} {a b : F} (hx : x = (a.nat : Int)) (hy : y = (b.nat : Int)) : bits .xor .u16 x y = ((a + b).nat : Int) := by
  subst hx hy; exact bits_xor a b
theorem bits_and_one (a : F) : bits .and .u16 (a.nat : Int) 1 = ((a.nat % 2 : Nat) : Int) := by
  have h := a.nat_lt
  show IntKind.u16.wrap ((BitVec.ofInt 16 (a.nat : Int) &&& BitVec.ofInt 16 1).toNat : Int) = _
  rw [wrap_u16, BitVec.toNat_and]
  have e : BitVec.ofInt 16 (a.nat : Int) = a.bv := by rw [BitVec.ofInt_natCast]; exact F.ofNat_nat a
  rw [e]
  have e1 : (BitVec.ofInt 16 1).toNat = 1 := rfl
  rw [e1, Nat.and_one_is_mod]
  show ((a.nat % 2 : Nat) : Int) % 65536 = _
  omega

theorem F.mx_nat (a : F) : (F.mx a).nat = (a.nat * 2 % 65536) ^^^ (if a.nat / 32768 = 1 then 4107 else 0) := by
  have h1 : (F.mx a).nat = ((a.bv <<< 1) ^^^ (if a.bv.getLsbD 15 then 0x100b#16 else 0#16)).toNat := rfl
  rw [h1, BitVec.toNat_xor, BitVec.toNat_shiftLeft]
  have h2 : a.bv.getLsbD 15 = decide (a.nat / 32768 = 1) := F.bit_top_nat a
  rw [h2, Nat.shiftLeft_eq]
  congr 1
  by_cases e : a.nat / 32768 = 1
  · simp [e]
  · simp [e]
theorem u16_twice (a : F) (h : ¬ a.nat / 32768 = 1) : IntKind.u16.wrap ((a.nat : Int) * 2) = ((F.mx a).nat : Int) := by
  rw [wrap_u16, F.mx_nat, if_neg h, Nat.xor_zero]; omega
theorem u16_twice_xor (a : F) (h : a.nat / 32768 = 1) : bits .xor .u16 (IntKind.u16.wrap ((a.nat : Int) * 2)) 4107 = ((F.mx a).nat : Int) := by
  have h2 : a.nat * 2 % 65536 < 65536 := Nat.mod_lt _ (by omega)
  rw [bits_xor' (a := F.ofNat (a.nat * 2 % 65536)) (b := F.ofNat 4107) (by rw [F.nat_ofNat h2, wrap_u16]; omega) (y := 4107) rfl, F.nat_add, F.nat_ofNat h2, F.mx_nat, if_pos h]
  rfl

/-- Half a number. -/
def F.half (b : F) : F := F.ofNat (b.nat / 2)
theorem F.half_nat (b : F) : (F.half b).nat = b.nat / 2 := F.nat_ofNat (by have := b.nat_lt; omega)
theorem F.half_bit (b : F) (i : Nat) : (F.half b).bit i = b.bit (i + 1) := by
  rw [F.bit_nat, F.bit_nat, F.half_nat, Nat.testBit_add_one]
theorem F.bit_big (b : F) (i : Nat) (h : 16 ≤ i) : b.bit i = false := BitVec.getLsbD_of_ge b.bv i h
theorem F.mul_step (a b : F) : a * b = (if b.nat % 2 = 1 then a else 0) + F.mx a * F.half b := by
  have e1 : F.mx a * F.half b = fsum 15 (fun i => if b.bit (i + 1) then F.mxn (i + 1) a else 0) := by
    rw [F.mul_def, fsum, F.half_bit, F.bit_big b 16 (by omega)]
    simp only [Bool.false_eq_true, if_false, F.add_zero]
    refine fsum_congr fun i hi => ?_
    rw [F.half_bit, F.mxn_succ]
  rw [e1, F.mul_def, fsum_head 15]
  congr 1
  rw [F.bit_zero_nat]
  by_cases e : b.nat % 2 = 1 <;> simp [e, F.mxn]

theorem times_odd {a b o t : F} (h : o + a * b = t) (hb : b.nat % 2 = 1) : (o + a) + F.mx a * F.half b = t := by
  rw [← h, F.mul_step a b, if_pos hb]; ac_rfl
theorem times_even {a b o t : F} (h : o + a * b = t) (hb : ¬ b.nat % 2 = 1) : o + F.mx a * F.half b = t := by
  rw [← h, F.mul_step a b, if_neg hb, F.zero_add]

theorem odd_of (b : F) (h : (bits .and .u16 (b.nat : Int) 1 == 1) = true) : b.nat % 2 = 1 := by
  rw [bits_and_one, beq_iff_eq] at h; omega
theorem even_of (b : F) (h : (bits .and .u16 (b.nat : Int) 1 == 1) = false) : ¬ b.nat % 2 = 1 := by
  rw [bits_and_one, beq_eq_false_iff_ne] at h; omega
theorem top_of (b : F) (h : ((b.nat : Int) / 32768 == 1) = true) : b.nat / 32768 = 1 := by rw [beq_iff_eq] at h; omega
theorem low_of (b : F) (h : ((b.nat : Int) / 32768 == 1) = false) : ¬ b.nat / 32768 = 1 := by rw [beq_eq_false_iff_ne] at h; omega
theorem nz_of {n : Nat} (h : ((n : Int) != 0) = true) : 0 < n := by rw [bne_iff_ne] at h; omega
theorem z_of {n : Nat} (h : ((n : Int) != 0) = false) : n = 0 := by
  rw [bne_eq_false_iff_eq] at h; omega
theorem vxor (a b : F) : Value.int .u16 (bits .xor .u16 (a.nat : Int) (b.nat : Int)) = .int .u16 ((a + b).nat : Int) := by rw [bits_xor]
theorem vhalf (b : F) : Value.int .u16 ((b.nat : Int) / 2) = .int .u16 ((F.half b).nat : Int) := by rw [F.half_nat]; congr 1
theorem vint {k : IntKind} {x y : Int} (h : x = y) : Value.int k x = .int k y := by rw [h]
theorem eint {k : IntKind} {x y : Int} (h : x = y) : Ending.returned (.int k x) = .returned (.int k y) := by rw [h]
theorem half_lt {b : F} (h : 0 < b.nat) : (F.half b).nat < b.nat := by rw [F.half_nat]; omega
theorem pow_step_odd {o a t : F} {n : Nat} (h : o * F.pow a n = t) (hn : n % 2 = 1) : o * a * F.pow (a * a) (n / 2) = t := by
  have e : n = 2 * (n / 2) + 1 := by omega
  rw [← h]
  rw [e, F.pow_succ, F.pow_mul, show F.pow a 2 = a * a from by rw [F.pow_succ, F.pow_one], show (2 * (n / 2) + 1) / 2 = n / 2 from by omega]
  ac_rfl
theorem pow_step_even {o a t : F} {n : Nat} (h : o * F.pow a n = t) (hn : ¬ n % 2 = 1) : o * F.pow (a * a) (n / 2) = t := by
  have e : n = 2 * (n / 2) := by omega
  rw [← h]
  rw [e, F.pow_mul, show F.pow a 2 = a * a from by rw [F.pow_succ, F.pow_one], show (2 * (n / 2)) / 2 = n / 2 from by omega]
theorem i64_and_one (k : Nat) : bits .and .i64 (k : Int) 1 = ((k % 2 : Nat) : Int) := by
  have h : bits .and .i64 (k : Int) 1 = IntKind.i64.wrap ((BitVec.ofInt 64 (k : Int) &&& BitVec.ofInt 64 1).toNat : Int) := rfl
  rw [h, BitVec.toNat_and]
  have e1 : (BitVec.ofInt 64 1).toNat = 1 := rfl
  rw [e1, Nat.and_one_is_mod, BitVec.ofInt_natCast, BitVec.toNat_ofNat]
  have e2 : k % 2 ^ 64 % 2 = k % 2 := by omega
  rw [e2]
  rcases Nat.mod_two_eq_zero_or_one k with h | h <;> rw [h] <;> rfl
theorem tmod_form (n : Int) : (n.tmod 65535 < 0 → n.tmod 65535 + 65535 = n % 65535) ∧ (0 ≤ n.tmod 65535 → n.tmod 65535 = n % 65535) := by
  rcases Int.le_total 0 n with h | h
  · have e := Int.tmod_eq_emod_of_nonneg (a := n) (b := 65535) h
    constructor <;> intro h3 <;> omega
  · have e := Int.tmod_eq_emod_of_nonneg (a := -n) (b := 65535) (by omega)
    rw [Int.neg_tmod] at e
    constructor <;> intro h3 <;> omega
theorem tmod_order (n : Int) : -65535 < n.tmod 65535 ∧ n.tmod 65535 < 65535 := by
  rcases Int.le_total 0 n with h | h
  · have e := Int.tmod_eq_emod_of_nonneg (a := n) (b := 65535) h
    exact ⟨by omega, by omega⟩
  · have e := Int.tmod_eq_emod_of_nonneg (a := -n) (b := 65535) (by omega)
    rw [Int.neg_tmod] at e
    exact ⟨by omega, by omega⟩
theorem tmod_again (n : Int) : n.tmod 65535 % 65535 = n % 65535 := by
  obtain ⟨h1, h2⟩ := tmod_form n
  by_cases h : n.tmod 65535 < 0
  · have h3 := h1 h; omega
  · have h3 := h2 (Int.not_lt.1 h)
    rw [h3]; omega
theorem rpow_odd (a : F) (n : Nat) (hn : n % 2 = 1) : F.pow a n = F.pow a (n / 2) * F.pow a (n / 2) * a := by
  rw [← F.pow_add, ← F.pow_succ]; congr 1; omega
theorem rpow_even (a : F) (n : Nat) (hn : ¬ n % 2 = 1) : F.pow a n = F.pow a (n / 2) * F.pow a (n / 2) := by
  rw [← F.pow_add]; congr 1; omega
end Go.Proofs.Ythejbmjleohlfaa
