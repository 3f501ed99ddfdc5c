/- The document's product (bits put together by exclusive or, then what is over taken off) is the field's. -/
import Derived.Test.YtbahelhhkmonmaaGi
namespace Go.Proofs.Ytbahelhhkmonmaa
open Go.RowKit

/-- What bits are as a number of the field. -/
def red (p : Nat) : F := fsum 32 (fun i => if p.testBit i then F.px i else 0)
theorem red_xor (p q : Nat) : red (p ^^^ q) = red p + red q := by
  unfold red
  rw [← fsum_add]
  refine fsum_congr fun i _ => ?_
  rw [Nat.testBit_xor]
  cases p.testBit i <;> cases q.testBit i <;> simp [F.add_self, F.add_zero, F.zero_add]
theorem red_shift (a : F) (k : Nat) (hk : k < 16) : red (a.nat * 2 ^ k) = F.mxn k a := by
  unfold red
  rw [show 32 = k + (16 + (16 - k)) from by omega, fsum_split, fsum_split]
  rw [fsum_zero' (n := k) (fun i hi => by rw [Nat.testBit_mul_two_pow]; simp; intro h; omega)]
  rw [fsum_zero' (n := 16 - k) (fun i hi => by
    have h := a.nat_lt
    rw [Nat.testBit_mul_two_pow]
    have : a.nat.testBit (k + (16 + i) - k) = false := Nat.testBit_lt_two_pow (Nat.lt_of_lt_of_le h (by
      rw [show (65536 : Nat) = 2 ^ 16 from rfl]; exact Nat.pow_le_pow_right (by omega) (by omega)))
    rw [this]; simp)]
  rw [F.zero_add, F.add_zero]
  have h2 : F.mxn k a = F.mxn k (fsum 16 (fun i => if a.bit i then F.px i else 0)) := by rw [← F.basis a]
  rw [h2, fsum_hom (F.mxn k) (F.mxn_zero k) (F.mxn_add k)]
  refine fsum_congr fun i _ => ?_
  rw [Nat.testBit_mul_two_pow, show k + i - k = i from by omega, ← F.bit_nat]
  cases a.bit i
  · simp [F.mxn_zero]
  · simp [F.mxn_px]
theorem red_poly : ∀ j : Fin 16, red (69643 * 2 ^ j.val) = 0 := by decide +kernel
theorem red_small (m : Nat) (h : m < 65536) : red m = F.ofNat m := by
  have e := F.basis (F.ofNat m)
  rw [e]
  unfold red
  rw [show 32 = 16 + 16 from rfl, fsum_split]
  rw [fsum_zero' (n := 16) (f := fun i => if m.testBit (16 + i) = true then F.px (16 + i) else 0) (fun i hi => by
    have : m.testBit (16 + i) = false := Nat.testBit_lt_two_pow (Nat.lt_of_lt_of_le h (by
      rw [show (65536 : Nat) = 2 ^ 16 from rfl]; exact Nat.pow_le_pow_right (by omega) (by omega)))
    rw [this]; simp)]
  rw [F.add_zero]
  refine fsum_congr fun i _ => ?_
  rw [F.bit_nat, F.nat_ofNat h]

/-- The sum of the shifted ones, so far. -/
def rm1 (a b : F) : Nat → Nat
  | 0 => 0
  | k + 1 => if b.nat.testBit k then rm1 a b k ^^^ (a.nat * 2 ^ k) else rm1 a b k
theorem rm1_lt (a b : F) (k : Nat) (hk : k ≤ 16) : rm1 a b k < 4294967296 := by
  induction k with
  | zero => simp [rm1]
  | succ k ih =>
    have h1 := ih (by omega)
    rw [rm1]
    split
    · have h2 : a.nat * 2 ^ k < 4294967296 := by
        have h := a.nat_lt
        have h3 : 2 ^ k ≤ 2 ^ 15 := Nat.pow_le_pow_right (by omega) (by omega)
        have h4 : a.nat * 2 ^ k ≤ 65535 * 2 ^ 15 := Nat.mul_le_mul (by omega) h3
        omega
      rw [show (4294967296 : Nat) = 2 ^ 32 from rfl] at h1 h2 ⊢
      exact Nat.xor_lt_two_pow h1 h2
    · exact h1
theorem rm1_red (a b : F) (k : Nat) (hk : k ≤ 16) : red (rm1 a b k) = fsum k (fun i => if b.bit i then F.mxn i a else 0) := by
  induction k with
  | zero => exact fsum_zero' fun i _ => by rw [show rm1 a b 0 = 0 from rfl, Nat.zero_testBit]; rfl
  | succ k ih =>
    rw [rm1, fsum, ← ih (by omega), F.bit_nat]
    split
    · rw [red_xor, red_shift a k (by omega)]
    · rw [F.add_zero]
theorem rm1_done (a b : F) : red (rm1 a b 16) = a * b := rm1_red a b 16 (by omega)

theorem rm2_step (m k : Nat) (t : F) (hk : 16 ≤ k) (hk2 : k ≤ 31) (hm : m < 2 ^ (k + 1)) (hr : red m = t) :
    (m.testBit k = true → m ^^^ (69643 * 2 ^ (k - 16)) < 2 ^ (k - 1 + 1) ∧ red (m ^^^ (69643 * 2 ^ (k - 16))) = t) ∧ (m.testBit k = false → m < 2 ^ (k - 1 + 1)) := by
  rw [show k - 1 + 1 = k from by omega]
  constructor
  · intro hb
    refine ⟨Nat.lt_pow_two_of_testBit _ fun i hi => ?_, ?_⟩
    · rw [Nat.testBit_xor]
      by_cases e : i = k
      · subst e
        rw [hb, Nat.testBit_mul_two_pow, show i - (i - 16) = 16 from by omega, decide_eq_true (show i - 16 ≤ i by omega)]
        decide
      · have h1 : m.testBit i = false := Nat.testBit_lt_two_pow (Nat.lt_of_lt_of_le hm (Nat.pow_le_pow_right (by omega) (by omega)))
        have h2 : (69643 * 2 ^ (k - 16)).testBit i = false := by
          rw [Nat.testBit_mul_two_pow]
          have : (69643 : Nat).testBit (i - (k - 16)) = false := Nat.testBit_lt_two_pow (Nat.lt_of_lt_of_le (show 69643 < 2 ^ 17 by decide) (Nat.pow_le_pow_right (by omega) (by omega)))
          rw [this]; simp
        rw [h1, h2]; rfl
    · rw [red_xor, hr, red_poly ⟨k - 16, by omega⟩, F.add_zero]
  · intro hb
    refine Nat.lt_pow_two_of_testBit _ fun i hi => ?_
    by_cases e : i = k
    · subst e; exact hb
    · exact Nat.testBit_lt_two_pow (Nat.lt_of_lt_of_le hm (Nat.pow_le_pow_right (by omega) (by omega)))

theorem sh_test (m k : Nat) : (((m : Int) / 2 ^ k).tmod 2 == 1) = m.testBit k := by
  have e : ((m : Int) / 2 ^ k) = ((m / 2 ^ k : Nat) : Int) := by norm_cast
  rw [e, Nat.testBit_eq_decide_div_mod_eq, Int.tmod_eq_emod_of_nonneg (Int.natCast_nonneg _)]
  rw [Bool.eq_iff_iff, beq_iff_eq, decide_eq_true_iff]
  omega
theorem bits_xor_u32 (a b : Nat) (ha : a < 4294967296) (hb : b < 4294967296) : bits .xor .u32 (a : Int) (b : Int) = ((a ^^^ b : Nat) : Int) := by
  have h := Nat.xor_lt_two_pow (n := 32) ha hb
  show IntKind.u32.wrap ((BitVec.ofInt 32 (a : Int) ^^^ BitVec.ofInt 32 (b : Int)).toNat : Int) = _
  rw [BitVec.ofInt_natCast, BitVec.ofInt_natCast, BitVec.toNat_xor, BitVec.toNat_ofNat, BitVec.toNat_ofNat, Nat.mod_eq_of_lt ha, Nat.mod_eq_of_lt hb]
  simp only [IntKind.wrap, IntKind.bits, IntKind.signed, Bool.false_and, Bool.false_eq_true, if_false]
  omega
theorem rm1_value (a b : F) (k : Nat) (hk : k < 16) : bits .xor .u32 (rm1 a b k : Int) ((a.nat : Int) * 2 ^ k % 4294967296) = ((rm1 a b k ^^^ (a.nat * 2 ^ k) : Nat) : Int) := by
  have h2 : a.nat * 2 ^ k < 4294967296 := by
    have h := a.nat_lt
    have h3 : 2 ^ k ≤ 2 ^ 15 := Nat.pow_le_pow_right (by omega) (by omega)
    have h4 : a.nat * 2 ^ k ≤ 65535 * 2 ^ 15 := Nat.mul_le_mul (by omega) h3
    omega
  have e : ((a.nat : Int) * 2 ^ k % 4294967296) = ((a.nat * 2 ^ k : Nat) : Int) := by
    have e1 : ((a.nat : Int) * 2 ^ k) = ((a.nat * 2 ^ k : Nat) : Int) := by norm_cast
    rw [e1]; omega
  rw [e, bits_xor_u32 _ _ (rm1_lt a b k (by omega)) h2]
theorem rm2_value (m k : Nat) (hm : m < 4294967296) (hk : 16 ≤ k) (hk2 : k ≤ 31) : bits .xor .u32 (m : Int) (69643 * 2 ^ (k - 16) % 4294967296) = ((m ^^^ (69643 * 2 ^ (k - 16)) : Nat) : Int) := by
  have h2 : 69643 * 2 ^ (k - 16) < 4294967296 := by
    have h3 : 2 ^ (k - 16) ≤ 2 ^ 15 := Nat.pow_le_pow_right (by omega) (by omega)
    have h4 : 69643 * 2 ^ (k - 16) ≤ 69643 * 2 ^ 15 := Nat.mul_le_mul_left _ h3
    omega
  have e : ((69643 : Int) * 2 ^ (k - 16) % 4294967296) = ((69643 * 2 ^ (k - 16) : Nat) : Int) := by
    have e1 : ((69643 : Int) * 2 ^ (k - 16)) = ((69643 * 2 ^ (k - 16) : Nat) : Int) := by rw [Int.natCast_mul, Int.natCast_pow]; rfl
    rw [e1]; omega
  rw [e, bits_xor_u32 _ _ hm h2]
theorem rm2_done (m : Nat) (t : F) (h : m < 65536) (hr : red m = t) : IntKind.u16.wrap (m : Int) = (t.nat : Int) := by
  rw [red_small m h] at hr
  rw [← hr, F.nat_ofNat h, wrap_u16]; omega
theorem pow2_le {k : Nat} (hk : k ≤ 31) {m : Nat} (h : m < 2 ^ (k + 1)) : m < 4294967296 := by
  refine Nat.lt_of_lt_of_le h ?_
  rw [show (4294967296 : Nat) = 2 ^ 32 from rfl]; exact Nat.pow_le_pow_right (by omega) (by omega)
end Go.Proofs.Ytbahelhhkmonmaa
