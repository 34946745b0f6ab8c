import Derived.Test.YthgnapngjmgkcaaRows
import Derived.Test.YthgnapngjmgkcaaWd
import Derived.Test.YthgnapngjmgkcaaPop
import Derived.WalkKit
import Derived.WalkSpells
import Derived.WalkLawsBesides
import Derived.Deep.QuietTactic
import Derived.BigQuiet
import Derived.Outline
import Derived.Lib.Hide
/- Package bits: what a Vector is in memory; Len, Get, Rank. -/
namespace Go.Proofs.Ythgnapngjmgkcaa
open Go.RowKit

/-- the k-th word of a row of bits -/
def wordOf (f : Nat → Bool) : Nat → Nat
  | 0 => 0
  | n + 1 => wordOf f n + (if f n then 2 ^ n else 0)
theorem wordOf_lt (f : Nat → Bool) (n : Nat) : wordOf f n < 2 ^ n := by
  induction n with
  | zero => simp [wordOf]
  | succ n ih => simp only [wordOf, Nat.pow_succ]; split <;> omega
theorem wordOf_testBit (f : Nat → Bool) (n j : Nat) : (wordOf f n).testBit j = (decide (j < n) && f j) := by
  induction n with
  | zero => simp [wordOf]
  | succ n ih =>
    simp only [wordOf]
    have hlt := wordOf_lt f n
    by_cases hf : f n = true
    · rw [if_pos hf, Nat.add_comm]
      by_cases hj : j = n
      · subst hj
        rw [Nat.testBit_two_pow_add_eq, Nat.testBit_lt_two_pow hlt]
        simp [hf]
      · by_cases hlj : j < n
        · rw [Nat.testBit_two_pow_add_gt hlj, ih]
          simp [hlj, show j < n + 1 by omega]
        · have h2 : 2 ^ n + wordOf f n < 2 ^ j := by
            have : 2 ^ (n + 1) ≤ 2 ^ j := Nat.pow_le_pow_right (by decide) (by omega)
            rw [Nat.pow_succ] at this
            omega
          rw [Nat.testBit_lt_two_pow h2]
          simp [show ¬ j < n + 1 by omega]
    · rw [if_neg hf, Nat.add_zero, ih]
      by_cases hj : j = n
      · subst hj; simp [hf]
      · by_cases hlj : j < n
        · simp [hlj, show j < n + 1 by omega]
        · simp [hlj, show ¬ j < n + 1 by omega]

def word64 (f : Nat → Bool) (k : Nat) : Nat := wordOf (fun j => f (64 * k + j)) 64
theorem word64_lt (f : Nat → Bool) (k : Nat) : word64 f k < 18446744073709551616 := wordOf_lt _ 64
theorem word64_testBit (f : Nat → Bool) (k j : Nat) : (word64 f k).testBit j = (decide (j < 64) && f (64 * k + j)) := wordOf_testBit _ _ _

def wordsOf (n : Nat) (f : Nat → Bool) : List Value := (List.range ((n + 63) / 64)).map fun k => .int .u64 (word64 f k)
def aheadOf (n : Nat) (f : Nat → Bool) : List Value := (List.range ((n + 63) / 64 + 1)).map fun k => .int .i64 (cnt f (64 * k))
theorem wordsOf_get (n : Nat) (f : Nat → Bool) (k : Nat) (h : k < (n + 63) / 64) : (wordsOf n f)[k]? = some (.int .u64 (word64 f k)) := by simp [wordsOf, h]
theorem aheadOf_get (n : Nat) (f : Nat → Bool) (k : Nat) (h : k < (n + 63) / 64 + 1) : (aheadOf n f)[k]? = some (.int .i64 (cnt f (64 * k))) := by simp [aheadOf, h]
@[simp] theorem wordsOf_length (n : Nat) (f : Nat → Bool) : (wordsOf n f).length = (n + 63) / 64 := by simp [wordsOf]
@[simp] theorem aheadOf_length (n : Nat) (f : Nat → Bool) : (aheadOf n f).length = (n + 63) / 64 + 1 := by simp [aheadOf]

/-- block b holds a Vector of the n bits f -/
def IsVec (w : World) (b n : Nat) (f : Nat → Bool) : Prop :=
  ∃ vw va, w.cell? ⟨b, 0, none⟩ = some (.int .i64 n) ∧ w.cell? ⟨b, 1, none⟩ = some vw ∧ w.cell? ⟨b, 2, none⟩ = some va ∧ Sl w vw (wordsOf n f) ∧ Sl w va (aheadOf n f) ∧ n ≤ 1048576 ∧ ∀ j, n ≤ j → f j = false
theorem IsVec.below {w w' : World} {b n : Nat} {f : Nat → Bool} (h : IsVec w b n f) (hb : Below w.heap.size w w') : IsVec w' b n f := by
  obtain ⟨vw, va, h0, h1, h2, h3, h4, h5⟩ := h
  exact ⟨vw, va, cell_below hb h0, cell_below hb h1, cell_below hb h2, h3.below hb, h4.below hb, h5⟩
theorem IsVec.drewN {w : World} {b n : Nat} {f : Nat → Bool} (h : IsVec w b n f) (m : Nat) : IsVec (w.drewN m) b n f := h

theorem mask_cnt (f : Nat → Bool) (k r : Nat) (hr : r ≤ 64) : cnt (word64 f k &&& (2 ^ r - 1)).testBit 64 = cnt (fun j => f (64 * k + j)) r := by
  obtain ⟨d, hd⟩ : ∃ d, 64 = r + d := ⟨64 - r, by omega⟩
  have e64 : cnt (word64 f k &&& (2 ^ r - 1)).testBit 64 = cnt (word64 f k &&& (2 ^ r - 1)).testBit (r + d) := by rw [hd]
  rw [e64, cnt_add]
  have h2 : cnt (fun j => (word64 f k &&& (2 ^ r - 1)).testBit (r + j)) d = 0 := by
    apply cnt_false
    intro j _
    rw [Nat.testBit_and, Nat.testBit_two_pow_sub_one]
    simp
  rw [h2, Nat.add_zero]
  apply cnt_congr
  intro j hj
  rw [Nat.testBit_and, Nat.testBit_two_pow_sub_one, word64_testBit]
  simp [hj, show j < 64 by omega]

theorem ones64 (x : Int) (w : World) (h0 : 0 ≤ x) (hx : x < 18446744073709551616) :
    Calls Try.prog 69 #[.int .u64 x] w fun e w' => e = .returned (.int .i64 (cnt x.toNat.testBit 64)) ∧ w = w' := by
  obtain ⟨x, rfl⟩ := Int.eq_ofNat_of_zero_le h0
  have HF := Lib.hid (oc_cnt x (by omega))
  rw [Int.toNat_natCast]
  go_enter Try.func69, Try.ntmps69
  go_wp2
  go_ret
  exact ⟨ret_int HF.out, rfl⟩

theorem ones_mask (f : Nat → Bool) (q r : Nat) (w : World) (hr : r < 64) :
    Calls Try.prog 69 #[.int .u64 (bits .and .u64 (word64 f q) (IntKind.u64.wrap (IntKind.u64.wrap (2 ^ r) - 1)))] w fun e w' => e = .returned (.int .i64 (cnt (fun j => f (64 * q + j)) r)) ∧ w = w' := by
  have hlt := word64_lt f q
  have hp : (2 : Nat) ^ r < 18446744073709551616 := Nat.pow_lt_pow_right (by decide) hr
  have hp1 : 1 ≤ (2 : Nat) ^ r := Nat.one_le_two_pow
  have e1 : (2 : Int) ^ r = ((2 ^ r : Nat) : Int) := by simp
  rw [e1, wrap_small _ hp, show (((2 ^ r : Nat) : Int) - 1) = ((2 ^ r - 1 : Nat) : Int) by omega, wrap_small _ (by omega), u64_and_nat _ _ hlt (by omega)]
  have hle := Nat.and_le_left (n := word64 f q) (m := 2 ^ r - 1)
  have h := ones64 ((word64 f q &&& (2 ^ r - 1) : Nat) : Int) w (by omega) (by omega)
  rw [Int.toNat_natCast, mask_cnt f q r (by omega)] at h
  exact h

theorem vecLen (b n : Nat) (f : Nat → Bool) (w : World) (h : IsVec w b n f) :
    Calls Try.prog 66 #[.pointer (some ⟨b, 0, none⟩)] w fun e w' => e = .returned (.int .i64 n) ∧ w = w' := by
  obtain ⟨vw, va, h0, _⟩ := h
  go_enter Try.func66, Try.ntmps66
  go_wp2
  go_ret
  exact ⟨rfl, rfl⟩

/-- how many of the first i bits are c -/
def rankZ (f : Nat → Bool) (c : Bool) (i : Int) : Int := if c then cnt f i.toNat else i - cnt f i.toNat

theorem vecRank0 (b n : Nat) (f : Nat → Bool) (c : Bool) (w : World) (h : IsVec w b n f) :
    Calls Try.prog 43 #[.pointer (some ⟨b, 0, none⟩), .bool c, .int .i64 0] w fun e w' => e = .returned (.int .i64 0) ∧ ∃ m, w' = w.drewN m := by
  go_enter Try.func43, Try.ntmps43
  go_wp2_with (go_at_call 66; refine (vecLen b n f _ h).mono ?_; rintro e w' ⟨rfl, rfl⟩)
  all_goals
    go_ret
    exact ⟨rfl, 0, rfl⟩

theorem vecRank1 (b n k : Nat) (f : Nat → Bool) (c : Bool) (w : World) (h : IsVec w b n f) (hk : 0 < k) (hm : k % 64 = 0) (hi : k ≤ n) :
    Calls Try.prog 43 #[.pointer (some ⟨b, 0, none⟩), .bool c, .int .i64 k] w fun e w' => e = .returned (.int .i64 (rankZ f c k)) ∧ ∃ m, w' = w.drewN m := by
  have hv := h
  obtain ⟨vw, va, c0, c1, c2, sw, sa, hn, _⟩ := h
  obtain ⟨ba, oa, ca, rfl, hla, hca, hxa⟩ := sa.full (by simp)
  have h3 := hxa (k / 64) _ (aheadOf_get n f _ (by omega))
  clear hxa hla hca sw
  have hmin : (if k < n then (k : Int) else (n : Int)) = k := by split <;> omega
  have hz : ((k : Int) == 0) = false := by simp; omega
  cases c
  all_goals
    go_enter Try.func43, Try.ntmps43
    go_wp2_with (go_at_call 66; refine (vecLen b n f _ hv).mono ?_; rintro e w' ⟨rfl, rfl⟩)
    go_ret
    refine ⟨ret_int ?_, 0, rfl⟩
    have e : 64 * (k / 64) = k := by omega
    have hle := cnt_le f k
    simp only [rankZ, e, Int.toNat_natCast, if_true, Bool.false_eq_true, if_false]
    try (unfold wrap64; omega)

set_option maxHeartbeats 1000000 in
theorem vecRank2 (b n k : Nat) (f : Nat → Bool) (c : Bool) (w : World) (h : IsVec w b n f) (hm : 0 < k % 64) (hi : k ≤ n) :
    Calls Try.prog 43 #[.pointer (some ⟨b, 0, none⟩), .bool c, .int .i64 k] w fun e w' => e = .returned (.int .i64 (rankZ f c k)) ∧ ∃ m, w' = w.drewN m := by
  have hv := h
  obtain ⟨vw, va, c0, c1, c2, sw, sa, hn, _⟩ := h
  obtain ⟨ba, oa, ca, rfl, hla, hca, hxa⟩ := sa.full (by simp)
  obtain ⟨bw, ow, cw, rfl, hlw, hcw, hxw⟩ := sw.full (by simp; omega)
  have h3 := hxa (k / 64) _ (aheadOf_get n f _ (by omega))
  have h4 := hxw (k / 64) _ (wordsOf_get n f _ (by omega))
  clear hxa hla hca sa hxw hlw hcw sw
  obtain ⟨L, hL⟩ : ∃ L, L = (n + 63) / 64 := ⟨_, rfl⟩
  rw [wordsOf_length, ← hL] at c1
  have hmin : (if k < n then (k : Int) else (n : Int)) = k := by split <;> omega
  have hz : ((k : Int) == 0) = false := by simp; omega
  have hlt := word64_lt f (k / 64)
  have hle := cnt_le f (64 * (k / 64))
  have hq0 : (0 : Int) ≤ (k : Int) / 64 := by omega
  have hq1 : (k : Int) / 64 < (L : Int) := by omega
  have hq2 : ((k : Int) / 64).toNat = k / 64 := by omega
  have HL := Lib.hid hL
  clear hL
  have hr : k % 64 < 64 := by omega
  have hd : decide ((0 : Int) < (k : Int) % 64) = true := by simp; omega
  have hle2 := cnt_le (fun j => f (64 * (k / 64) + j)) (k % 64)
  go_enter Try.func43, Try.ntmps43
  go_wp2_with (go_at_call 66; refine (vecLen b n f _ hv).mono ?_; rintro e w' ⟨rfl, rfl⟩)
  go_quiet ((go_at_call 69; exact quiet_same (ones_mask f (k / 64) (k % 64) _ hr)))
  clear hmin hz hd hq0 hq1 hq2
  have e : cnt f k = cnt f (64 * (k / 64)) + cnt (fun j => f (64 * (k / 64) + j)) (k % 64) := by rw [← cnt_add, Nat.div_add_mod]
  have E := Lib.hid e
  clear e
  have hk := cnt_le f k
  cases c
  all_goals
    go_wp2
    go_ret
    refine ⟨ret_int ?_, nq, rfl⟩
    have e := E.out
    simp only [rankZ, Int.toNat_natCast, if_true, Bool.false_eq_true, if_false]
    first | omega | (unfold wrap64; omega)

theorem vecRank (b n : Nat) (f : Nat → Bool) (c : Bool) (i : Int) (w : World) (h : IsVec w b n f) (h0 : 0 ≤ i) (hi : i ≤ n) :
    Calls Try.prog 43 #[.pointer (some ⟨b, 0, none⟩), .bool c, .int .i64 i] w fun e w' => e = .returned (.int .i64 (rankZ f c i)) ∧ ∃ m, w' = w.drewN m := by
  obtain ⟨k, rfl⟩ := Int.eq_ofNat_of_zero_le h0
  rcases Nat.eq_zero_or_pos k with rfl | hk
  · refine (vecRank0 b n f c w h).mono fun e w' hh => ?_
    have e0 : rankZ f c ((0 : Nat) : Int) = 0 := by unfold rankZ; simp [cnt]
    rw [e0]
    exact hh
  · rcases Nat.eq_zero_or_pos (k % 64) with hm | hm
    · exact vecRank1 b n k f c w h hk hm (by omega)
    · exact vecRank2 b n k f c w h hm (by omega)

theorem bit_test (f : Nat → Bool) (q r : Nat) (hr : r < 64) : (bits .and .u64 ((word64 f q : Int) / 2 ^ r) 1 == 1) = f (64 * q + r) := by
  have hlt := word64_lt f q
  have hd := Nat.div_le_self (word64 f q) (2 ^ r)
  have e1 : (word64 f q : Int) / 2 ^ r = ((word64 f q / 2 ^ r : Nat) : Int) := by simp
  rw [e1, show (1 : Int) = ((1 : Nat) : Int) from rfl, u64_and_nat _ _ (by omega) (by omega), nat_mask1]
  have ht := word64_testBit f q r
  rw [Nat.testBit_eq_decide_div_mod_eq] at ht
  simp only [hr, decide_true, Bool.true_and] at ht
  rw [← ht]
  by_cases h : word64 f q / 2 ^ r % 2 = 1 <;> simp [h]
  omega

set_option maxHeartbeats 1000000 in
theorem vecGet (b n : Nat) (f : Nat → Bool) (i : Int) (w : World) (h : IsVec w b n f) (h0 : 0 ≤ i) (hi : i < n) :
    Calls Try.prog 41 #[.pointer (some ⟨b, 0, none⟩), .int .i64 i] w fun e w' => e = .returned (.bool (f i.toNat)) ∧ ∃ m, w' = w.drewN m := by
  have hv := h
  obtain ⟨k, rfl⟩ := Int.eq_ofNat_of_zero_le h0
  rw [Int.toNat_natCast]
  obtain ⟨vw, va, c0, c1, c2, sw, sa, hn, _⟩ := h
  obtain ⟨bw, ow, cw, rfl, hlw, hcw, hxw⟩ := sw.full (by simp; omega)
  have h4 := hxw (k / 64) _ (wordsOf_get n f _ (by omega))
  clear hxw hlw hcw sw sa c2
  obtain ⟨L, hL⟩ : ∃ L, L = (n + 63) / 64 := ⟨_, rfl⟩
  rw [wordsOf_length, ← hL] at c1
  have hlt := word64_lt f (k / 64)
  have hq0 : (0 : Int) ≤ (k : Int) / 64 := by omega
  have hq1 : (k : Int) / 64 < (L : Int) := by omega
  have hq2 : ((k : Int) / 64).toNat = k / 64 := by omega
  clear hL
  have hr : k % 64 < 64 := by omega
  have hd1 : decide ((k : Int) < (n : Int)) = true := by simp; omega
  have HB := Lib.hid (bit_test f (k / 64) (k % 64) hr)
  go_enter Try.func41, Try.ntmps41
  go_wp2_with (go_at_call 66; refine (vecLen b n f _ hv).mono ?_; rintro e w' ⟨rfl, rfl⟩)
  go_ret
  refine ⟨ret_bool ?_, 0, rfl⟩
  rw [HB.out, Nat.div_add_mod]
end Go.Proofs.Ythgnapngjmgkcaa
