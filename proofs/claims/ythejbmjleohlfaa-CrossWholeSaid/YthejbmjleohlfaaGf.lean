/- The field of 65536 numbers, as plain mathematics: bits, sums, products, powers of x, inverses. -/
namespace Go.Proofs.Ythejbmjleohlfaa

/-- The numbers of the field. -/
def F : Type := BitVec 16

namespace F
def bv (a : F) : BitVec 16 := a
def of (a : BitVec 16) : F := a
def nat (a : F) : Nat := BitVec.toNat (bv a)
def ofNat (n : Nat) : F := of (BitVec.ofNat 16 n)
end F

instance : DecidableEq F := inferInstanceAs (DecidableEq (BitVec 16))
instance : Inhabited F := ⟨F.of 0#16⟩
instance : Zero F := ⟨F.of 0#16⟩
instance : One F := ⟨F.of 1#16⟩
instance : Add F := ⟨fun a b => F.of (a.bv ^^^ b.bv)⟩

theorem F.add_def (a b : F) : a + b = F.of (a.bv ^^^ b.bv) := rfl
theorem F.zero_def : (0 : F) = F.of 0#16 := rfl
theorem F.one_def : (1 : F) = F.of 1#16 := rfl
theorem F.ext_bv {a b : F} (h : a.bv = b.bv) : a = b := h
theorem F.bv_of (a : BitVec 16) : (F.of a).bv = a := rfl
theorem F.of_bv (a : F) : F.of a.bv = a := rfl
theorem F.add_comm (a b : F) : a + b = b + a := BitVec.xor_comm a.bv b.bv
theorem F.add_assoc (a b c : F) : a + b + c = a + (b + c) := BitVec.xor_assoc a.bv b.bv c.bv
theorem F.add_zero (a : F) : a + 0 = a := BitVec.xor_zero (x := a.bv)
theorem F.zero_add (a : F) : 0 + a = a := BitVec.zero_xor (x := a.bv)
theorem F.add_self (a : F) : a + a = 0 := BitVec.xor_self (x := a.bv)
theorem F.add_left_comm (a b c : F) : a + (b + c) = b + (a + c) := by
  rw [← F.add_assoc, F.add_comm a b, F.add_assoc]
instance : Std.Associative (α := F) (· + ·) := ⟨F.add_assoc⟩
instance : Std.Commutative (α := F) (· + ·) := ⟨F.add_comm⟩
theorem F.add_cancel_left (a b : F) : a + (a + b) = b := by rw [← F.add_assoc, F.add_self, F.zero_add]
theorem F.add_eq_zero {a b : F} : a + b = 0 ↔ a = b := by
  constructor
  · intro h
    have := congrArg (fun x => x + b) h
    simp only [F.add_assoc, F.add_self, F.add_zero, F.zero_add] at this
    exact this
  · rintro rfl; exact F.add_self a
theorem F.add_right_cancel {a b c : F} (h : a + c = b + c) : a = b := by
  have := congrArg (fun x => x + c) h
  simpa only [F.add_assoc, F.add_self, F.add_zero] using this
theorem F.add_left_cancel {a b c : F} (h : c + a = c + b) : a = b := by
  rw [F.add_comm c a, F.add_comm c b] at h; exact F.add_right_cancel h

/-- A number, times x. -/
def F.mx (a : F) : F := F.of ((a.bv <<< 1) ^^^ (if a.bv.getLsbD 15 then 0x100b#16 else 0#16))

theorem F.mx_add (a b : F) : F.mx (a + b) = F.mx a + F.mx b := by
  unfold F.mx
  rw [F.add_def, F.add_def]
  simp only [F.bv_of, BitVec.getLsbD_xor, BitVec.shiftLeft_xor_distrib]
  congr 1
  cases a.bv.getLsbD 15 <;> cases b.bv.getLsbD 15 <;> simp
  · exact BitVec.xor_assoc _ _ _
  · rw [BitVec.xor_assoc, BitVec.xor_comm (b.bv <<< 1), ← BitVec.xor_assoc]
  · rw [BitVec.xor_assoc, BitVec.xor_comm (4107#16), BitVec.xor_assoc, BitVec.xor_self, BitVec.xor_zero]
theorem F.mx_zero : F.mx 0 = 0 := by decide

/-- A number, times a power of x. -/
def F.mxn : Nat → F → F
  | 0, a => a
  | n + 1, a => F.mx (F.mxn n a)

theorem F.mxn_add (n : Nat) (a b : F) : F.mxn n (a + b) = F.mxn n a + F.mxn n b := by
  induction n with
  | zero => rfl
  | succ n ih => simp only [F.mxn, ih, F.mx_add]
theorem F.mxn_zero (n : Nat) : F.mxn n 0 = 0 := by
  induction n with
  | zero => rfl
  | succ n ih => simp only [F.mxn, ih, F.mx_zero]
theorem F.mxn_succ (n : Nat) (a : F) : F.mxn (n + 1) a = F.mxn n (F.mx a) := by
  induction n with
  | zero => rfl
  | succ n ih => rw [F.mxn, ih]; rfl
theorem F.mxn_mxn (n m : Nat) (a : F) : F.mxn n (F.mxn m a) = F.mxn (n + m) a := by
  induction n with
  | zero => simp [F.mxn]
  | succ n ih => rw [F.mxn, ih, Nat.succ_add]; rfl

/-- A sum. -/
def fsum : Nat → (Nat → F) → F
  | 0, _ => 0
  | n + 1, f => fsum n f + f n

theorem fsum_congr {n : Nat} {f g : Nat → F} (h : ∀ i, i < n → f i = g i) : fsum n f = fsum n g := by
  induction n with
  | zero => rfl
  | succ n ih => rw [fsum, fsum, ih fun i hi => h i (by omega), h n (by omega)]
theorem fsum_add (n : Nat) (f g : Nat → F) : fsum n (fun i => f i + g i) = fsum n f + fsum n g := by
  induction n with
  | zero => exact (F.add_zero 0).symm
  | succ n ih => simp only [fsum, ih]; ac_rfl
theorem fsum_zero (n : Nat) : fsum n (fun _ => 0) = 0 := by
  induction n with
  | zero => rfl
  | succ n ih => rw [fsum, ih, F.add_zero]
theorem fsum_zero' {n : Nat} {f : Nat → F} (h : ∀ i, i < n → f i = 0) : fsum n f = 0 := by
  rw [fsum_congr h, fsum_zero]
theorem fsum_head (n : Nat) (f : Nat → F) : fsum (n + 1) f = f 0 + fsum n (fun i => f (i + 1)) := by
  induction n with
  | zero => simp only [fsum]; rw [F.zero_add, F.add_zero]
  | succ n ih => rw [fsum, ih, fsum, F.add_assoc]
theorem fsum_split (n m : Nat) (f : Nat → F) : fsum (n + m) f = fsum n f + fsum m (fun i => f (n + i)) := by
  induction m with
  | zero => simp only [fsum]; rw [F.add_zero, Nat.add_zero]
  | succ m ih => rw [← Nat.add_assoc, fsum, ih, fsum, F.add_assoc]
theorem fsum_one {n : Nat} (k : Nat) (hk : k < n) (f : Nat → F) (h : ∀ i, i < n → i ≠ k → f i = 0) : fsum n f = f k := by
  induction n with
  | zero => omega
  | succ n ih =>
    rw [fsum]
    by_cases e : k = n
    · subst e
      rw [fsum_zero' fun i hi => h i (by omega) (by omega), F.zero_add]
    · rw [ih (by omega) fun i hi hne => h i (by omega) hne, h n (by omega) (fun he => e he.symm), F.add_zero]
theorem fsum_swap (n m : Nat) (f : Nat → Nat → F) : fsum n (fun i => fsum m (fun j => f i j)) = fsum m (fun j => fsum n (fun i => f i j)) := by
  induction n with
  | zero => simp only [fsum]; exact (fsum_zero m).symm
  | succ n ih => simp only [fsum]; rw [ih, ← fsum_add]
theorem fsum_hom (g : F → F) (h0 : g 0 = 0) (hg : ∀ a b, g (a + b) = g a + g b) (n : Nat) (f : Nat → F) : g (fsum n f) = fsum n (fun i => g (f i)) := by
  induction n with
  | zero => exact h0
  | succ n ih => rw [fsum, hg, ih, fsum]

/-- Is a bit set? -/
def F.bit (a : F) (i : Nat) : Bool := a.bv.getLsbD i

/-- A product. -/
def F.mul (a b : F) : F := fsum 16 (fun i => if b.bit i then F.mxn i a else 0)
instance : Mul F := ⟨F.mul⟩
theorem F.mul_def (a b : F) : a * b = fsum 16 (fun i => if b.bit i then F.mxn i a else 0) := rfl

theorem F.bit_add (a b : F) (i : Nat) : (a + b).bit i = (a.bit i ^^ b.bit i) := BitVec.getLsbD_xor
theorem F.bit_zero (i : Nat) : (0 : F).bit i = false := BitVec.getLsbD_zero

theorem F.mul_add (a b c : F) : a * (b + c) = a * b + a * c := by
  rw [F.mul_def, F.mul_def, F.mul_def, ← fsum_add]
  refine fsum_congr fun i _ => ?_
  rw [F.bit_add]
  cases b.bit i <;> cases c.bit i <;> simp [F.add_self, F.add_zero, F.zero_add]
theorem F.add_mul (a b c : F) : (a + b) * c = a * c + b * c := by
  rw [F.mul_def, F.mul_def, F.mul_def, ← fsum_add]
  refine fsum_congr fun i _ => ?_
  cases c.bit i <;> simp [F.add_zero, F.mxn_add]
theorem F.mul_zero (a : F) : a * 0 = 0 := by
  rw [F.mul_def]; exact fsum_zero' fun i _ => by rw [F.bit_zero]; rfl
theorem F.zero_mul (a : F) : 0 * a = 0 := by
  rw [F.mul_def]; exact fsum_zero' fun i _ => by rw [F.mxn_zero]; split <;> rfl

/-- The powers of x. -/
def F.px (n : Nat) : F := F.mxn n 1

theorem px_bits : ∀ j : Fin 16, ∀ i : Fin 16, (F.px j.val).bit i.val = decide (i.val = j.val) := by decide
theorem F.px_bit {i j : Nat} (hi : i < 16) (hj : j < 16) : (F.px j).bit i = decide (i = j) := px_bits ⟨j, hj⟩ ⟨i, hi⟩

theorem F.ext_bit {a b : F} (h : ∀ i, i < 16 → a.bit i = b.bit i) : a = b := BitVec.eq_of_getLsbD_eq h
theorem bit_fsum (n : Nat) (f : Nat → F) (i : Nat) : (fsum n f).bit i = (List.range n).foldl (fun s k => s ^^ (f k).bit i) false := by
  induction n with
  | zero => exact F.bit_zero i
  | succ n ih => rw [fsum, F.bit_add, ih, List.range_succ, List.foldl_append]; rfl

theorem foldl_xor_one (g : Nat → Bool) (i : Nat) : ∀ (l : List Nat) (s : Bool), i ∉ l → l.foldl (fun s k => s ^^ (g k && decide (i = k))) s = s := by
  intro l
  induction l with
  | nil => intro s _; rfl
  | cons k l ih =>
    intro s h
    simp only [List.mem_cons, not_or] at h
    rw [List.foldl_cons, ih _ h.2]
    simp [h.1]
theorem foldl_xor_pick (g : Nat → Bool) (i : Nat) (n : Nat) (h : i < n) : (List.range n).foldl (fun s k => s ^^ (g k && decide (i = k))) false = g i := by
  induction n with
  | zero => omega
  | succ n ih =>
    rw [List.range_succ, List.foldl_append]
    by_cases e : i = n
    · rw [foldl_xor_one g i (List.range n) false (by rw [List.mem_range]; omega), e]
      simp
    · rw [ih (by omega)]
      simp [e]

theorem F.basis (a : F) : a = fsum 16 (fun i => if a.bit i then F.px i else 0) := by
  refine F.ext_bit fun i hi => ?_
  rw [bit_fsum]
  have : (List.range 16).foldl (fun s k => s ^^ ((if a.bit k then F.px k else 0 : F)).bit i) false = (List.range 16).foldl (fun s k => s ^^ (a.bit k && decide (i = k))) false := by
    have hm : ∀ k ∈ List.range 16, ((if a.bit k then F.px k else 0 : F)).bit i = (a.bit k && decide (i = k)) := by
      intro k hk
      rw [List.mem_range] at hk
      cases a.bit k
      · simp [F.bit_zero]
      · simp [F.px_bit hi hk]
    generalize List.range 16 = l at hm ⊢
    generalize false = s
    induction l generalizing s with
    | nil => rfl
    | cons k l ih =>
      rw [List.foldl_cons, List.foldl_cons, hm k (by simp), ih fun k' hk' => hm k' (by simp [hk'])]
  rw [this, foldl_xor_pick _ _ _ hi]

/-- Two additive functions that agree at the first 16 powers of x are one. -/
theorem F.lin_ext {g h : F → F} (g0 : g 0 = 0) (h0 : h 0 = 0) (hg : ∀ a b, g (a + b) = g a + g b) (hh : ∀ a b, h (a + b) = h a + h b)
    (he : ∀ i, i < 16 → g (F.px i) = h (F.px i)) (a : F) : g a = h a := by
  rw [F.basis a, fsum_hom g g0 hg, fsum_hom h h0 hh]
  refine fsum_congr fun i hi => ?_
  cases a.bit i
  · simp [g0, h0]
  · simp [he i hi]

theorem F.mul_px (a : F) {j : Nat} (hj : j < 16) : a * F.px j = F.mxn j a := by
  rw [F.mul_def, fsum_one j hj]
  · rw [F.px_bit hj hj]; simp
  · intro i hi hne
    rw [F.px_bit hi hj]; simp [hne]
theorem F.mxn_px (i j : Nat) : F.mxn i (F.px j) = F.px (i + j) := F.mxn_mxn i j 1
theorem F.mul_comm (a b : F) : a * b = b * a := by
  refine F.lin_ext (g := fun b => a * b) (h := fun b => b * a) (F.mul_zero a) (F.zero_mul a) (F.mul_add a) (fun x y => F.add_mul x y a) (fun j hj => ?_) b
  show a * F.px j = F.px j * a
  refine F.lin_ext (g := fun a => a * F.px j) (h := fun a => F.px j * a) (F.zero_mul _) (F.mul_zero _) (fun x y => F.add_mul x y _) (F.mul_add _) (fun i hi => ?_) a
  show F.px i * F.px j = F.px j * F.px i
  rw [F.mul_px _ hj, F.mul_px _ hi, F.mxn_px, F.mxn_px, Nat.add_comm]
theorem F.mul_mx (a b : F) : a * F.mx b = F.mx (a * b) := by
  rw [F.mul_comm, F.mul_comm a b]
  rw [F.mul_def, F.mul_def, fsum_hom F.mx F.mx_zero F.mx_add]
  refine fsum_congr fun i _ => ?_
  cases a.bit i
  · simp [F.mx_zero]
  · simp only [if_true]; rw [← F.mxn_succ]; rfl
theorem F.mul_mxn (a b : F) (n : Nat) : a * F.mxn n b = F.mxn n (a * b) := by
  induction n with
  | zero => rfl
  | succ n ih => rw [F.mxn, F.mul_mx, ih]; rfl
theorem F.mul_assoc (a b c : F) : a * b * c = a * (b * c) := by
  refine F.lin_ext (g := fun c => a * b * c) (h := fun c => a * (b * c)) (F.mul_zero _) (by simp only [F.mul_zero]) (fun x y => F.mul_add _ x y)
    (fun x y => by simp only [F.mul_add]) (fun k hk => ?_) c
  show a * b * F.px k = a * (b * F.px k)
  rw [F.mul_px _ hk, F.mul_px _ hk, F.mul_mxn]
theorem F.mul_one (a : F) : a * 1 = a := F.mul_px a (j := 0) (by omega)
theorem F.one_mul (a : F) : 1 * a = a := by rw [F.mul_comm, F.mul_one]
instance : Std.Associative (α := F) (· * ·) := ⟨F.mul_assoc⟩
instance : Std.Commutative (α := F) (· * ·) := ⟨F.mul_comm⟩
theorem F.mul_left_comm (a b c : F) : a * (b * c) = b * (a * c) := by ac_rfl
theorem F.mx_eq (a : F) : F.mx a = a * F.px 1 := (F.mul_px a (j := 1) (by omega)).symm

theorem fsum_mul (n : Nat) (f : Nat → F) (a : F) : fsum n f * a = fsum n (fun i => f i * a) := fsum_hom (fun x => x * a) (F.zero_mul a) (fun x y => F.add_mul x y a) n f
theorem mul_fsum (n : Nat) (f : Nat → F) (a : F) : a * fsum n f = fsum n (fun i => a * f i) := fsum_hom (fun x => a * x) (F.mul_zero a) (F.mul_add a) n f

/-- A number times itself, so often. -/
def F.pow (a : F) : Nat → F
  | 0 => 1
  | n + 1 => F.pow a n * a
theorem F.pow_zero (a : F) : F.pow a 0 = 1 := rfl
theorem F.pow_succ (a : F) (n : Nat) : F.pow a (n + 1) = F.pow a n * a := rfl
theorem F.pow_one (a : F) : F.pow a 1 = a := F.one_mul a
theorem F.pow_add (a : F) (n m : Nat) : F.pow a (n + m) = F.pow a n * F.pow a m := by
  induction m with
  | zero => rw [F.pow_zero, F.mul_one, Nat.add_zero]
  | succ m ih => rw [← Nat.add_assoc, F.pow_succ, ih, F.pow_succ, F.mul_assoc]
theorem F.pow_mul (a : F) (n m : Nat) : F.pow a (n * m) = F.pow (F.pow a n) m := by
  induction m with
  | zero => rfl
  | succ m ih => rw [Nat.mul_succ, F.pow_add, ih, F.pow_succ]
theorem F.mul_pow (a b : F) (n : Nat) : F.pow (a * b) n = F.pow a n * F.pow b n := by
  induction n with
  | zero => exact (F.mul_one 1).symm
  | succ n ih => rw [F.pow_succ, ih, F.pow_succ, F.pow_succ]; ac_rfl
theorem F.one_pow (n : Nat) : F.pow 1 n = 1 := by
  induction n with
  | zero => rfl
  | succ n ih => rw [F.pow_succ, ih, F.mul_one]
theorem F.zero_pow (n : Nat) (h : 0 < n) : F.pow 0 n = 0 := by
  obtain ⟨n, rfl⟩ : ∃ m, n = m + 1 := ⟨n - 1, by omega⟩
  rw [F.pow_succ, F.mul_zero]
theorem F.px_zero : F.px 0 = 1 := rfl
theorem F.px_succ (n : Nat) : F.px (n + 1) = F.mx (F.px n) := rfl
theorem F.px_add (n m : Nat) : F.px (n + m) = F.px n * F.px m := by
  have := F.mul_mxn (F.px m) 1 n
  rw [F.mul_one] at this
  rw [F.mul_comm, show F.px n = F.mxn n 1 from rfl, this]
  exact (F.mxn_px n m).symm
theorem F.px_mul (n m : Nat) : F.px (n * m) = F.pow (F.px n) m := by
  induction m with
  | zero => rfl
  | succ m ih => rw [Nat.mul_succ, F.px_add, ih, F.pow_succ]
theorem F.px_eq_pow (n : Nat) : F.px n = F.pow (F.px 1) n := by rw [← F.px_mul, Nat.one_mul]
theorem F.px_double (n : Nat) : F.px (n + n) = F.px n * F.px n := F.px_add n n

/-- The powers of x by halves: to be run by the kernel. -/
def F.pxf : Nat → Nat → F
  | 0, _ => 1
  | f + 1, n => let h := F.pxf f (n / 2); if n % 2 = 1 then F.mx (h * h) else h * h
theorem F.pxf_eq (f n : Nat) (h : n < 2 ^ f) : F.pxf f n = F.px n := by
  induction f generalizing n with
  | zero => have : n = 0 := by simp at h; exact h
            subst this; rfl
  | succ f ih =>
    have := ih (n / 2) (by rw [Nat.pow_succ] at h; omega)
    rw [F.pxf, this, ← F.px_double]
    by_cases e : n % 2 = 1
    · rw [if_pos e, ← F.px_succ]; congr 1; omega
    · rw [if_neg e]; congr 1; omega

theorem pxf_order : F.pxf 17 65535 = 1 ∧ F.pxf 17 21845 ≠ 1 ∧ F.pxf 17 13107 ≠ 1 ∧ F.pxf 17 3855 ≠ 1 ∧ F.pxf 17 255 ≠ 1 := by decide +kernel
theorem F.px_order : F.px 65535 = 1 := by rw [← F.pxf_eq 17 65535 (by decide)]; exact pxf_order.1

theorem F.px_mod (n : Nat) : F.px n = F.px (n % 65535) := by
  have h := Nat.div_add_mod n 65535
  have : F.px n = F.px (65535 * (n / 65535) + n % 65535) := by rw [h]
  rw [this, F.px_add, F.px_mul, F.px_order, F.one_pow, F.one_mul]
theorem F.zero_ne_one : (0 : F) ≠ 1 := by decide
theorem F.px_ne_zero (n : Nat) : F.px n ≠ 0 := by
  intro h
  have h1 : F.px (n % 65535) * F.px (65535 - n % 65535) = 1 := by
    rw [← F.px_add, ← F.px_order]; congr 1; omega
  rw [← F.px_mod, h, F.zero_mul] at h1
  exact F.zero_ne_one h1

theorem F.px_sub {n m : Nat} (h : m ≤ n) (hm : F.px m = 1) (hn : F.px n = 1) : F.px (n - m) = 1 := by
  have : F.px (n - m) * F.px m = F.px n := by rw [← F.px_add]; congr 1; omega
  rw [hm, hn, F.mul_one] at this
  exact this
theorem F.px_gcd (a b : Nat) (ha : F.px a = 1) (hb : F.px b = 1) : F.px (Nat.gcd a b) = 1 := by
  induction a, b using Nat.gcd.induction with
  | H0 n => rw [Nat.gcd_zero_left]; exact hb
  | H1 m n hm ih =>
    rw [Nat.gcd_rec]
    refine ih ?_ ha
    have h1 : F.px (m * (n / m)) = 1 := by rw [F.px_mul, ha, F.one_pow]
    have h2 := F.px_sub (Nat.mul_div_le n m) h1 hb
    rwa [show n - m * (n / m) = n % m from by have := Nat.div_add_mod n m; omega] at h2

theorem small_primes : (∀ x : Fin 4, x.val ∣ 3 → x.val = 1 ∨ x.val = 3) ∧ (∀ x : Fin 6, x.val ∣ 5 → x.val = 1 ∨ x.val = 5) ∧ (∀ x : Fin 18, x.val ∣ 17 → x.val = 1 ∨ x.val = 17) ∧ (∀ x : Fin 258, x.val ∣ 257 → x.val = 1 ∨ x.val = 257) := by decide +kernel
theorem order_div (g : Nat) (hg : g ∣ 65535) (hne : g ≠ 65535) : g ∣ 21845 ∨ g ∣ 13107 ∨ g ∣ 3855 ∨ g ∣ 255 := by
  obtain ⟨q, hq⟩ := hg
  have hp : ∀ p k : Nat, p * k = 65535 → p ∣ q → g ∣ k := by
    intro p k hk ⟨r, hr⟩
    refine ⟨r, ?_⟩
    have hp0 : 0 < p := by rcases Nat.eq_zero_or_pos p with h0 | h0; · subst h0; omega
                           · exact h0
    apply Nat.eq_of_mul_eq_mul_left hp0
    rw [hk, hq, hr]; ac_rfl
  have key : ∀ p, (∀ x, x ≤ p → x ∣ p → x = 1 ∨ x = p) → 0 < p → Nat.Coprime q p ∨ p ∣ q := by
    intro p hx hp0
    rcases hx (Nat.gcd q p) (Nat.le_of_dvd hp0 (Nat.gcd_dvd_right q p)) (Nat.gcd_dvd_right q p) with h | h
    · exact .inl h
    · refine .inr ?_
      have := Nat.gcd_dvd_left q p
      rwa [h] at this
  obtain ⟨s3, s5, s17, s257⟩ := small_primes
  rcases key 3 (fun x hx => s3 ⟨x, by omega⟩) (by omega) with c3 | c3
  · rcases key 5 (fun x hx => s5 ⟨x, by omega⟩) (by omega) with c5 | c5
    · rcases key 17 (fun x hx => s17 ⟨x, by omega⟩) (by omega) with c17 | c17
      · rcases key 257 (fun x hx => s257 ⟨x, by omega⟩) (by omega) with c257 | c257
        · exfalso
          have hc : Nat.Coprime q (3 * 5 * 17 * 257) := ((c3.mul_right c5).mul_right c17).mul_right c257
          have h1 : Nat.gcd q 65535 = 1 := hc
          have h2 : q ∣ 65535 := ⟨g, by rw [hq, Nat.mul_comm]⟩
          rw [Nat.gcd_eq_left h2] at h1
          subst h1
          omega
        · exact .inr (.inr (.inr (hp 257 255 (by omega) c257)))
      · exact .inr (.inr (.inl (hp 17 3855 (by omega) c17)))
    · exact .inr (.inl (hp 5 13107 (by omega) c5))
  · exact .inl (hp 3 21845 (by omega) c3)

theorem F.px_eq_one {n : Nat} (h : F.px n = 1) : 65535 ∣ n := by
  have hg := F.px_gcd n 65535 h F.px_order
  by_cases e : Nat.gcd n 65535 = 65535
  · have := Nat.gcd_dvd_left n 65535
    rwa [e] at this
  · exfalso
    have hd : ∀ k, Nat.gcd n 65535 ∣ k → F.px k = 1 := by
      intro k ⟨r, hr⟩
      rw [hr, F.px_mul, hg, F.one_pow]
    obtain ⟨_, o1, o2, o3, o4⟩ := pxf_order
    rcases order_div _ (Nat.gcd_dvd_right n 65535) e with d | d | d | d
    · exact o1 (by rw [F.pxf_eq 17 _ (by decide)]; exact hd _ d)
    · exact o2 (by rw [F.pxf_eq 17 _ (by decide)]; exact hd _ d)
    · exact o3 (by rw [F.pxf_eq 17 _ (by decide)]; exact hd _ d)
    · exact o4 (by rw [F.pxf_eq 17 _ (by decide)]; exact hd _ d)

theorem F.px_inj {i j : Nat} (hi : i < 65535) (hj : j < 65535) (h : F.px i = F.px j) : i = j := by
  have main : ∀ i j : Nat, i < 65535 → j < 65535 → i ≤ j → F.px i = F.px j → i = j := by
    intro i j hi hj hij h
    have h1 : F.px (j + (65535 - i)) = 1 := by
      rw [F.px_add, ← h, ← F.px_add, ← F.px_order]; congr 1; omega
    obtain ⟨c, hc⟩ := F.px_eq_one h1
    omega
  rcases Nat.le_total i j with h1 | h1
  · exact main i j hi hj h1 h
  · exact (main j i hj hi h1 h.symm).symm

theorem pigeon : ∀ (n : Nat) (f : Nat → Nat), (∀ i, i < n → f i < n) → (∀ i j, i < n → j < n → f i = f j → i = j) → ∀ y, y < n → ∃ i, i < n ∧ f i = y := by
  intro n
  induction n with
  | zero => intro f _ _ y hy; omega
  | succ n ih =>
    intro f hf hinj y hy
    by_cases e : f n = y
    · exact ⟨n, by omega, e⟩
    · have hfn := hf n (by omega)
      obtain ⟨i, hi, he⟩ := ih (fun i => if f i = n then f n else f i)
        (fun i hi => by
          show (if f i = n then f n else f i) < n
          have := hf i (by omega)
          split
          · rename_i h1
            have : f n ≠ n := fun h2 => by have := hinj i n (by omega) (by omega) (by omega); omega
            omega
          · omega)
        (fun i j hi hj h => by
          have h : (if f i = n then f n else f i) = (if f j = n then f n else f j) := h
          split at h <;> split at h
          · exact hinj i j (by omega) (by omega) (by omega)
          · have := hinj n j (by omega) (by omega) h; omega
          · have := hinj i n (by omega) (by omega) h; omega
          · exact hinj i j (by omega) (by omega) h)
        (if y = n then f n else y) (by
          split
          · omega
          · omega)
      have he : (if f i = n then f n else f i) = (if y = n then f n else y) := he
      refine ⟨i, by omega, ?_⟩
      split at he <;> split at he
      · omega
      · omega
      · have := hinj i n (by omega) (by omega) he; omega
      · exact he

theorem F.nat_lt (a : F) : a.nat < 65536 := BitVec.isLt a.bv
theorem F.nat_inj {a b : F} (h : a.nat = b.nat) : a = b := BitVec.eq_of_toNat_eq h
theorem F.nat_zero : (0 : F).nat = 0 := rfl
theorem F.nat_one : (1 : F).nat = 1 := rfl
theorem F.nat_eq_zero {a : F} : a.nat = 0 ↔ a = 0 := ⟨fun h => F.nat_inj h, fun h => by rw [h]; rfl⟩
theorem F.ofNat_nat (a : F) : F.ofNat a.nat = a := by show BitVec.ofNat 16 a.bv.toNat = a.bv; rw [BitVec.ofNat_toNat]; exact BitVec.setWidth_eq _
theorem F.nat_ofNat {n : Nat} (h : n < 65536) : (F.ofNat n).nat = n := by
  show (BitVec.ofNat 16 n).toNat = n
  rw [BitVec.toNat_ofNat]; exact Nat.mod_eq_of_lt h

/-- Each number but 0 is a power of x. -/
theorem F.log_ex (a : F) (h : a ≠ 0) : ∃ n, n < 65535 ∧ F.px n = a := by
  have hpos : ∀ b : F, b ≠ 0 → 0 < b.nat := fun b hb => by
    rcases Nat.eq_zero_or_pos b.nat with h0 | h0
    · exact absurd (F.nat_eq_zero.1 h0) hb
    · exact h0
  obtain ⟨n, hn, he⟩ := pigeon 65535 (fun i => (F.px i).nat - 1)
    (fun i _ => by have := F.nat_lt (F.px i); show (F.px i).nat - 1 < 65535; omega)
    (fun i j hi hj h => by
      have h : (F.px i).nat - 1 = (F.px j).nat - 1 := h
      have h1 := hpos _ (F.px_ne_zero i)
      have h2 := hpos _ (F.px_ne_zero j)
      exact F.px_inj hi hj (F.nat_inj (by omega)))
    (a.nat - 1) (by have := F.nat_lt a; omega)
  have he : (F.px n).nat - 1 = a.nat - 1 := he
  have h1 := hpos _ (F.px_ne_zero n)
  have h2 := hpos _ h
  exact ⟨n, hn, F.nat_inj (by omega)⟩

/-- The inverse of a number (of 0: 0). -/
def F.inv (a : F) : F := F.pow a 65534
theorem F.inv_zero : F.inv 0 = 0 := F.zero_pow _ (by omega)
theorem F.pow_order {a : F} (h : a ≠ 0) : F.pow a 65535 = 1 := by
  obtain ⟨n, _, rfl⟩ := F.log_ex a h
  rw [← F.px_mul, Nat.mul_comm, F.px_mul, F.px_order, F.one_pow]
theorem F.mul_inv {a : F} (h : a ≠ 0) : a * F.inv a = 1 := by
  rw [F.mul_comm]; exact F.pow_order h
theorem F.inv_mul {a : F} (h : a ≠ 0) : F.inv a * a = 1 := F.pow_order h
theorem F.mul_eq_zero {a b : F} : a * b = 0 ↔ a = 0 ∨ b = 0 := by
  constructor
  · intro h
    by_cases e : a = 0
    · exact .inl e
    · refine .inr ?_
      have := congrArg (fun x => F.inv a * x) h
      simp only [F.mul_zero] at this
      rwa [← F.mul_assoc, F.inv_mul e, F.one_mul] at this
  · rintro (rfl | rfl)
    · exact F.zero_mul b
    · exact F.mul_zero a
theorem F.mul_ne_zero {a b : F} (ha : a ≠ 0) (hb : b ≠ 0) : a * b ≠ 0 := fun h => by
  rcases F.mul_eq_zero.1 h with h | h
  · exact ha h
  · exact hb h
theorem F.mul_left_cancel {a b c : F} (ha : a ≠ 0) (h : a * b = a * c) : b = c := by
  have := congrArg (fun x => F.inv a * x) h
  simpa only [← F.mul_assoc, F.inv_mul ha, F.one_mul] using this
theorem F.mul_right_cancel {a b c : F} (ha : a ≠ 0) (h : b * a = c * a) : b = c := by
  rw [F.mul_comm b, F.mul_comm c] at h; exact F.mul_left_cancel ha h
theorem F.inv_ne_zero {a : F} (h : a ≠ 0) : F.inv a ≠ 0 := fun e => by
  have := F.mul_inv h
  rw [e, F.mul_zero] at this
  exact F.zero_ne_one this
theorem F.eq_inv {a b : F} (h : a * b = 1) : b = F.inv a := by
  have ha : a ≠ 0 := fun e => by rw [e, F.zero_mul] at h; exact F.zero_ne_one h
  refine F.mul_left_cancel ha ?_
  rw [h, F.mul_inv ha]
theorem F.inv_inv (a : F) : F.inv (F.inv a) = a := by
  by_cases h : a = 0
  · subst h; rw [F.inv_zero, F.inv_zero]
  · exact (F.eq_inv (F.inv_mul h)).symm
theorem F.inv_mul_rev (a b : F) : F.inv (a * b) = F.inv a * F.inv b := F.mul_pow a b 65534
theorem F.sq_add (a b : F) : (a + b) * (a + b) = a * a + b * b := by
  rw [F.add_mul, F.mul_add, F.mul_add, F.mul_comm b a]
  rw [show a * a + a * b + (a * b + b * b) = a * a + (a * b + a * b) + b * b from by ac_rfl, F.add_self, F.add_zero]
theorem F.pow_65536 (a : F) : F.pow a 65536 = a := by
  by_cases h : a = 0
  · subst h; exact F.zero_pow _ (by omega)
  · rw [show 65536 = 65535 + 1 from rfl, F.pow_succ, F.pow_order h, F.one_mul]
theorem F.sq_inj {a b : F} (h : a * a = b * b) : a = b := by
  have : (a + b) * (a + b) = 0 := by rw [F.sq_add, h, F.add_self]
  rcases F.mul_eq_zero.1 this with h | h
  · exact F.add_eq_zero.1 h
  · exact F.add_eq_zero.1 h

end Go.Proofs.Ythejbmjleohlfaa
