import Derived.Test.YthgnapngjmgkcaaBits1
/- Plain mathematics of rows of small numbers in words of 64 bits. -/
namespace Go.Proofs.Ythgnapngjmgkcaa
open Go.RowKit

/-- the i-th number of wd digits -/
def numAt (wd : Nat) (f : Nat → Bool) (i : Nat) : Nat := wordOf (fun t => f (i * wd + t)) wd
theorem numAt_lt (wd : Nat) (f : Nat → Bool) (i : Nat) : numAt wd f i < 2 ^ wd := wordOf_lt _ _
theorem numAt_testBit (wd : Nat) (f : Nat → Bool) (i t : Nat) : (numAt wd f i).testBit t = (decide (t < wd) && f (i * wd + t)) := wordOf_testBit _ _ _

/-- v laid at the digits from p on -/
def lay (f : Nat → Bool) (p wd v : Nat) : Nat → Bool := fun j => if p ≤ j ∧ j < p + wd then v.testBit (j - p) else f j

theorem mask_val (wd : Nat) (h : wd ≤ 64) : 18446744073709551615 / 2 ^ (64 - wd) = 2 ^ wd - 1 := by
  have h1 : (2 : Nat) ^ 64 = 2 ^ (64 - wd) * 2 ^ wd := by rw [← Nat.pow_add]; congr 1; omega
  have h2 : 0 < (2 : Nat) ^ (64 - wd) := Nat.two_pow_pos _
  have h3 : 0 < (2 : Nat) ^ wd := Nat.two_pow_pos _
  have e : 18446744073709551615 = 2 ^ (64 - wd) * (2 ^ wd - 1) + (2 ^ (64 - wd) - 1) := by
    rw [Nat.mul_sub, ← h1, Nat.mul_one]
    have : 2 ^ (64 - wd) ≤ 2 ^ 64 := Nat.pow_le_pow_right (by decide) (by omega)
    omega
  rw [e, Nat.mul_add_div h2, Nat.div_eq_of_lt (by omega), Nat.add_zero]

theorem shl_bit (x s t : Nat) : (x * 2 ^ s % 18446744073709551616).testBit t = (decide (t < 64) && decide (s ≤ t) && x.testBit (t - s)) := by
  rw [show (18446744073709551616 : Nat) = 2 ^ 64 from rfl, Nat.testBit_mod_two_pow, ← Nat.shiftLeft_eq, Nat.testBit_shiftLeft, Bool.and_assoc]
theorem shr_bit (x s t : Nat) : (x / 2 ^ s).testBit t = x.testBit (s + t) := by
  rw [Nat.testBit_div_two_pow, Nat.add_comm]
theorem not_bit (x t : Nat) (hx : x < 18446744073709551616) : (18446744073709551615 - x).testBit t = (decide (t < 64) && !x.testBit t) := by
  have := Nat.testBit_two_pow_sub_succ (n := 64) (x := x) (by omega) t
  rwa [show 2 ^ 64 - (x + 1) = 18446744073709551615 - x by omega] at this

theorem get_low (f : Nat → Bool) (wd i : Nat) (hw : wd ≤ 64) (h : i * wd % 64 + wd ≤ 64) : (word64 f (i * wd / 64) / 2 ^ (i * wd % 64)) &&& (2 ^ wd - 1) = numAt wd f i := by
  apply Nat.eq_of_testBit_eq
  intro t
  rw [Nat.testBit_and, shr_bit, Nat.testBit_two_pow_sub_one, word64_testBit, numAt_testBit]
  by_cases ht : t < wd
  · rw [show 64 * (i * wd / 64) + (i * wd % 64 + t) = i * wd + t by omega]
    simp [ht, show i * wd % 64 + t < 64 by omega]
  · simp [ht]
theorem get_high (f : Nat → Bool) (wd i : Nat) (hw : wd ≤ 64) (h : 64 < i * wd % 64 + wd) :
    ((word64 f (i * wd / 64) / 2 ^ (i * wd % 64)) ||| (word64 f (i * wd / 64 + 1) * 2 ^ (64 - i * wd % 64) % 18446744073709551616)) &&& (2 ^ wd - 1) = numAt wd f i := by
  apply Nat.eq_of_testBit_eq
  intro t
  rw [Nat.testBit_and, Nat.testBit_or, shr_bit, shl_bit, Nat.testBit_two_pow_sub_one, word64_testBit, word64_testBit, numAt_testBit]
  by_cases ht : t < wd
  · rw [show 64 * (i * wd / 64) + (i * wd % 64 + t) = i * wd + t by omega]
    by_cases h2 : i * wd % 64 + t < 64
    · have h3 : ¬ (64 - i * wd % 64 ≤ t) := by omega
      simp [ht, h2, h3]
    · have h3 : 64 - i * wd % 64 ≤ t := by omega
      rw [show 64 * (i * wd / 64 + 1) + (t - (64 - i * wd % 64)) = i * wd + t by omega]
      simp [ht, h2, h3, show t < 64 by omega, show t - (64 - i * wd % 64) < 64 by omega]
  · simp [ht]

/-- the word where the number begins, v laid -/
theorem set_low (f : Nat → Bool) (wd p v : Nat) (hw : wd ≤ 64) (hv : v < 2 ^ wd) :
    (word64 f (p / 64) &&& (18446744073709551615 - (2 ^ wd - 1) * 2 ^ (p % 64) % 18446744073709551616)) ||| (v * 2 ^ (p % 64) % 18446744073709551616) = word64 (lay f p wd v) (p / 64) := by
  apply Nat.eq_of_testBit_eq
  intro t
  have hlt : (2 ^ wd - 1) * 2 ^ (p % 64) % 18446744073709551616 < 18446744073709551616 := Nat.mod_lt _ (by decide)
  rw [Nat.testBit_or, Nat.testBit_and, not_bit _ _ hlt, shl_bit, shl_bit, Nat.testBit_two_pow_sub_one, word64_testBit, word64_testBit]
  by_cases ht : t < 64
  · by_cases h1 : p % 64 ≤ t
    · by_cases h2 : t - p % 64 < wd
      · have : p ≤ 64 * (p / 64) + t ∧ 64 * (p / 64) + t < p + wd := by omega
        simp only [ht, h1, h2, lay, this, and_self, if_true, decide_true, Bool.and_self, Bool.not_true, Bool.and_false, Bool.false_or, Bool.true_and]
        congr 1
        omega
      · have hn : ¬ (p ≤ 64 * (p / 64) + t ∧ 64 * (p / 64) + t < p + wd) := by omega
        have hb : v.testBit (t - p % 64) = false := Nat.testBit_lt_two_pow (Nat.lt_of_lt_of_le hv (Nat.pow_le_pow_right (by decide) (by omega)))
        simp [ht, h1, h2, lay, hn, hb]
    · have hn : ¬ (p ≤ 64 * (p / 64) + t ∧ 64 * (p / 64) + t < p + wd) := by omega
      simp [ht, h1, lay, hn]
  · simp [ht]
theorem set_high (f : Nat → Bool) (wd p v : Nat) (hw : wd ≤ 64) (hv : v < 2 ^ wd) :
    (word64 f (p / 64 + 1) &&& (18446744073709551615 - (2 ^ wd - 1) / 2 ^ (64 - p % 64))) ||| (v / 2 ^ (64 - p % 64)) = word64 (lay f p wd v) (p / 64 + 1) := by
  apply Nat.eq_of_testBit_eq
  intro t
  have hlt : (2 ^ wd - 1) / 2 ^ (64 - p % 64) < 18446744073709551616 := by
    have h1 := Nat.div_le_self (2 ^ wd - 1) (2 ^ (64 - p % 64))
    have h2 : (2 : Nat) ^ wd ≤ 2 ^ 64 := Nat.pow_le_pow_right (by decide) hw
    omega
  rw [Nat.testBit_or, Nat.testBit_and, not_bit _ _ hlt, shr_bit, shr_bit, Nat.testBit_two_pow_sub_one, word64_testBit, word64_testBit]
  by_cases ht : t < 64
  · by_cases h2 : 64 - p % 64 + t < wd
    · have : p ≤ 64 * (p / 64 + 1) + t ∧ 64 * (p / 64 + 1) + t < p + wd := by omega
      simp only [ht, h2, lay, this, and_self, if_true, decide_true, Bool.and_self, Bool.not_true, Bool.and_false, Bool.false_or, Bool.true_and]
      congr 1
      omega
    · have hn : ¬ (p ≤ 64 * (p / 64 + 1) + t ∧ 64 * (p / 64 + 1) + t < p + wd) := by omega
      have hb : v.testBit (64 - p % 64 + t) = false := Nat.testBit_lt_two_pow (Nat.lt_of_lt_of_le hv (Nat.pow_le_pow_right (by decide) (by omega)))
      simp [ht, h2, lay, hn, hb]
  · have hb : v.testBit (64 - p % 64 + t) = false := Nat.testBit_lt_two_pow (Nat.lt_of_lt_of_le hv (Nat.pow_le_pow_right (by decide) (by omega)))
    simp [ht, hb]
theorem lay_other (f : Nat → Bool) (wd p v k : Nat) (h1 : k ≠ p / 64) (h2 : k = p / 64 + 1 → p % 64 + wd ≤ 64) (hw : wd ≤ 64) : word64 (lay f p wd v) k = word64 f k := by
  apply Nat.eq_of_testBit_eq
  intro t
  rw [word64_testBit, word64_testBit]
  by_cases ht : t < 64
  · have hn : ¬ (p ≤ 64 * k + t ∧ 64 * k + t < p + wd) := by omega
    simp [ht, lay, hn]
  · simp [ht]

theorem numAt_lay_same (wd v i : Nat) (f : Nat → Bool) (hv : v < 2 ^ wd) : numAt wd (lay f (i * wd) wd v) i = v := by
  apply Nat.eq_of_testBit_eq
  intro t
  rw [numAt_testBit]
  by_cases ht : t < wd
  · simp [ht, lay]
  · rw [Nat.testBit_lt_two_pow (Nat.lt_of_lt_of_le hv (Nat.pow_le_pow_right (by decide) (by omega)))]
    simp [ht]
theorem numAt_lay_less (wd v i k : Nat) (f : Nat → Bool) (h : i < k) : numAt wd (lay f (k * wd) wd v) i = numAt wd f i := by
  apply Nat.eq_of_testBit_eq
  intro t
  rw [numAt_testBit, numAt_testBit]
  by_cases ht : t < wd
  · have h1 : i * wd + wd ≤ k * wd := by rw [← Nat.succ_mul]; exact Nat.mul_le_mul_right _ h
    have hn : ¬ (k * wd ≤ i * wd + t ∧ i * wd + t < k * wd + wd) := by omega
    simp [ht, lay, hn]
  · simp [ht]

end Go.Proofs.Ythgnapngjmgkcaa
