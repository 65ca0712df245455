/- CRC-32C over natural numbers: bit by bit, by table; a changed byte changes it. -/
import Derived.ProofKit
set_option linter.unusedSimpArgs false
set_option linter.unusedVariables false
namespace Go.Proofs.YtfchbkmegicfoaaGreat

def poly : Nat := 2197175160

/-- One bit. -/
def rnd (c : Nat) : Nat := (c / 2) ^^^ (if c % 2 = 1 then poly else 0)

/-- So many bits. -/
def rnds : Nat → Nat → Nat
  | 0, c => c
  | n + 1, c => rnd (rnds n c)

def crcByte (c x : Nat) : Nat := rnds 8 (c ^^^ x)
def crcFold (c : Nat) (l : List UInt8) : Nat := l.foldl (fun c b => crcByte c b.toNat) c

/-- The checksum. -/
def crcN (l : List UInt8) : Nat := crcFold 4294967295 l ^^^ 4294967295

theorem xor_half (a b : Nat) : (a ^^^ b) / 2 = (a / 2) ^^^ (b / 2) := by
  have := Nat.xor_div_two_pow (a := a) (b := b) (n := 1)
  simpa using this
theorem xor_low (a b : Nat) : (a ^^^ b) % 2 = (a % 2) ^^^ (b % 2) := by
  have := Nat.xor_mod_two_pow (a := a) (b := b) (n := 1)
  simpa using this

theorem low_cases (a : Nat) : a % 2 = 0 ∨ a % 2 = 1 := by omega

theorem rnd_xor (a b : Nat) : rnd (a ^^^ b) = rnd a ^^^ rnd b := by
  unfold rnd
  rw [xor_half, xor_low]
  rcases low_cases a with ha | ha <;> rcases low_cases b with hb | hb <;> simp only [ha, hb]
  · simp
  · simp [Nat.xor_assoc]
  · simp only [Nat.zero_ne_one, Nat.xor_zero, if_true, if_false]
    rw [Nat.xor_assoc, Nat.xor_assoc]
    congr 1
    rw [Nat.xor_comm]
  · simp only [Nat.xor_self, Nat.zero_ne_one, if_true, if_false, Nat.xor_zero]
    rw [Nat.xor_assoc, ← Nat.xor_assoc poly, Nat.xor_comm poly, Nat.xor_assoc (b / 2), Nat.xor_self, Nat.xor_zero]

theorem rnds_xor (n a b : Nat) : rnds n (a ^^^ b) = rnds n a ^^^ rnds n b := by
  induction n with
  | zero => rfl
  | succ n ih => simp only [rnds, ih, rnd_xor]

theorem rnd_lt {c : Nat} (h : c < 4294967296) : rnd c < 4294967296 := by
  unfold rnd
  have h1 : c / 2 < 2 ^ 32 := by omega
  split
  · exact Nat.xor_lt_two_pow h1 (by decide)
  · exact Nat.xor_lt_two_pow h1 (by decide)

theorem rnds_lt {n c : Nat} (h : c < 4294967296) : rnds n c < 4294967296 := by
  induction n with
  | zero => exact h
  | succ n ih => exact rnd_lt ih

theorem rnds_shift : ∀ (n c : Nat), c % 2 ^ n = 0 → rnds n c = c / 2 ^ n
  | 0, c, _ => by simp [rnds]
  | n + 1, c, h => by
    have h2 : c % 2 ^ n = 0 := by
      have : 2 ^ n ∣ c := Nat.dvd_trans ⟨2, by rw [Nat.pow_succ]⟩ (Nat.dvd_of_mod_eq_zero h)
      exact Nat.mod_eq_zero_of_dvd this
    simp only [rnds, rnds_shift n c h2, rnd]
    obtain ⟨q, rfl⟩ := Nat.dvd_of_mod_eq_zero h
    have e : 2 ^ (n + 1) * q / 2 ^ n = 2 * q := by
      rw [Nat.pow_succ, Nat.mul_assoc, Nat.mul_div_cancel_left _ (Nat.two_pow_pos n)]
    rw [e, Nat.mul_div_cancel_left _ (Nat.two_pow_pos (n + 1))]
    simp

theorem crcByte_lt {c x : Nat} (hc : c < 4294967296) (hx : x < 256) : crcByte c x < 4294967296 :=
  rnds_lt (Nat.xor_lt_two_pow (n := 32) hc (by omega))

theorem crcFold_lt {c : Nat} (hc : c < 4294967296) (l : List UInt8) : crcFold c l < 4294967296 := by
  induction l generalizing c with
  | nil => exact hc
  | cons b r ih => exact ih (crcByte_lt hc (UInt8.toNat_lt b))

theorem crcN_lt (l : List UInt8) : crcN l < 4294967296 := Nat.xor_lt_two_pow (n := 32) (crcFold_lt (by decide) l) (by decide)

theorem split256 (c : Nat) : c = (c / 256 * 256) ^^^ (c % 256) := by
  have h1 : (c / 256 * 256) ^^^ (c % 256) = c / 256 * 256 + c % 256 := by
    have := Nat.two_pow_add_eq_or_of_lt (i := 8) (b := c % 256) (by omega) (c / 256)
    apply Nat.eq_of_testBit_eq
    intro i
    rw [show c / 256 * 256 = 2 ^ 8 * (c / 256) by omega, this, Nat.testBit_or, Nat.testBit_xor]
    by_cases hi : i < 8
    · have : (2 ^ 8 * (c / 256)).testBit i = false := by
        rw [Nat.testBit_two_pow_mul]
        simp; omega
      rw [this]; simp
    · have : (c % 256).testBit i = false := Nat.testBit_lt_two_pow (Nat.lt_of_lt_of_le (by omega : c % 256 < 2 ^ 8) (Nat.pow_le_pow_right (by omega) (by omega)))
      rw [this]; simp
  omega

/-- By table. -/
theorem byte_table (c x : Nat) : crcByte c x = (c / 256) ^^^ rnds 8 ((c % 256) ^^^ x) := by
  unfold crcByte
  conv => lhs; rw [split256 c]
  rw [Nat.xor_assoc, rnds_xor, rnds_shift 8 _ (by omega)]
  congr 1
  omega

/-- The document's step. -/
def refStep (c x k : Nat) : Nat := (c / 2) ^^^ (if (c ^^^ (x / 2 ^ k)) % 2 = 1 then poly else 0)

theorem refStep_eq (c x k : Nat) : refStep (rnds k (c ^^^ x) ^^^ (x / 2 ^ k)) x k = rnds (k + 1) (c ^^^ x) ^^^ (x / 2 ^ (k + 1)) := by
  unfold refStep
  rw [Nat.xor_assoc (rnds k (c ^^^ x)) (x / 2 ^ k), Nat.xor_self, Nat.xor_zero, xor_half]
  simp only [rnds]
  unfold rnd
  rw [Nat.pow_succ, ← Nat.div_div_eq_div_mul]
  rw [Nat.xor_assoc, Nat.xor_comm (x / 2 ^ k / 2), ← Nat.xor_assoc]

theorem ref_start (c x : Nat) : rnds 0 (c ^^^ x) ^^^ (x / 2 ^ 0) = c := by
  simp [rnds, Nat.xor_assoc]
theorem ref_end (c x : Nat) (hx : x < 256) : rnds 8 (c ^^^ x) ^^^ (x / 2 ^ 8) = crcByte c x := by
  rw [show x / 2 ^ 8 = 0 by omega, Nat.xor_zero]; rfl

theorem xor_cancel_right {a b c : Nat} (h : a ^^^ c = b ^^^ c) : a = b := by
  have := congrArg (· ^^^ c) h
  simpa [Nat.xor_assoc] using this
theorem xor_cancel_left {a b c : Nat} (h : c ^^^ a = c ^^^ b) : a = b := by
  rw [Nat.xor_comm c, Nat.xor_comm c] at h
  exact xor_cancel_right h

theorem rnd_top {c : Nat} (h : c < 4294967296) : rnd c / 2 ^ 31 = c % 2 := by
  unfold rnd
  rw [Nat.xor_div_two_pow, show c / 2 / 2 ^ 31 = 0 by omega]
  rcases low_cases c with hc | hc <;> simp [hc, poly]

theorem rnd_inj {a b : Nat} (ha : a < 4294967296) (hb : b < 4294967296) (h : rnd a = rnd b) : a = b := by
  have h1 : a % 2 = b % 2 := by rw [← rnd_top ha, ← rnd_top hb, h]
  have h2 : a / 2 = b / 2 := by
    unfold rnd at h
    rw [h1] at h
    exact xor_cancel_right h
  omega

theorem rnds_inj {n a b : Nat} (ha : a < 4294967296) (hb : b < 4294967296) (h : rnds n a = rnds n b) : a = b := by
  induction n with
  | zero => exact h
  | succ n ih => exact ih (rnd_inj (rnds_lt ha) (rnds_lt hb) h)

theorem crcFold_inj {a b : Nat} (ha : a < 4294967296) (hb : b < 4294967296) : ∀ {l : List UInt8}, crcFold a l = crcFold b l → a = b := by
  intro l h
  induction l generalizing a b with
  | nil => exact h
  | cons x r ih =>
    have h1 := ih (crcByte_lt ha (UInt8.toNat_lt x)) (crcByte_lt hb (UInt8.toNat_lt x)) h
    exact xor_cancel_right (rnds_inj (Nat.xor_lt_two_pow (n := 32) ha (by have := UInt8.toNat_lt x; omega)) (Nat.xor_lt_two_pow (n := 32) hb (by have := UInt8.toNat_lt x; omega)) h1)

/-- A byte that is another one makes another checksum. -/
theorem crcN_set {l : List UInt8} {i : Nat} {y : UInt8} (hi : i < l.length) (hy : y ≠ l[i]) : crcN (l.set i y) ≠ crcN l := by
  intro h
  have h1 := xor_cancel_right h
  have e1 : l = l.take i ++ l[i] :: l.drop (i + 1) := by simp
  have e2 : l.set i y = l.take i ++ y :: l.drop (i + 1) := by rw [List.set_eq_take_append_cons_drop, if_pos hi]
  rw [e2] at h1
  conv at h1 => rhs; rw [e1]
  unfold crcFold at h1
  rw [List.foldl_append, List.foldl_append, List.foldl_cons, List.foldl_cons] at h1
  have hs : (l.take i).foldl (fun c b => crcByte c b.toNat) 4294967295 < 4294967296 := crcFold_lt (by decide) (l.take i)
  have hx := UInt8.toNat_lt y
  have hz := UInt8.toNat_lt l[i]
  have h2 := crcFold_inj (crcByte_lt hs hx) (crcByte_lt hs hz) h1
  have h3 := rnds_inj (Nat.xor_lt_two_pow (n := 32) hs (by omega)) (Nat.xor_lt_two_pow (n := 32) hs (by omega)) h2
  exact hy (UInt8.toNat_inj.1 (xor_cancel_left h3))

end Go.Proofs.YtfchbkmegicfoaaGreat
