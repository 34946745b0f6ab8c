import Derived.Test.YthgnapngjmgkcaaPackM
import Derived.Test.YthgnapngjmgkcaaBits3
/- Package packed: what an Array is in memory; Len, has, mask, Get. -/
namespace Go.Proofs.Ythgnapngjmgkcaa
open Go.RowKit

/-- block b holds an Array of n numbers of wd digits, the digits are f -/
def IsPackAt (w : World) (b bw wd n : Nat) (f : Nat → Bool) : Prop :=
  w.heap[b]? = some (.cells #[.int .i64 wd, .int .i64 n, .slice (some ⟨bw, 0, none⟩) ((wd * n + 63) / 64) ((wd * n + 63) / 64)] 105 (0, 0)) ∧
    w.heap[bw]? = some (.cells (wordsOf (wd * n) f).toArray 67 (0, 0)) ∧ bw ≠ b ∧ 1 ≤ wd ∧ wd ≤ 64 ∧ n ≤ 1048576
def IsPack (w : World) (b wd n : Nat) (f : Nat → Bool) : Prop := ∃ bw, IsPackAt w b bw wd n f
theorem heap_below {w w' : World} (h : Below w.heap.size w w') {b : Nat} {o : Obj} (hb : w.heap[b]? = some o) : w'.heap[b]? = some o :=
  (h.block b (Array.getElem?_eq_some_iff.1 hb).1).trans hb
theorem IsPack.below {w w' : World} {b wd n : Nat} {f : Nat → Bool} (h : IsPack w b wd n f) (hb : Below w.heap.size w w') : IsPack w' b wd n f := by
  obtain ⟨bw, h1, h2, h3⟩ := h
  exact ⟨bw, heap_below hb h1, heap_below hb h2, h3⟩
theorem IsPack.drewN {w : World} {b wd n : Nat} {f : Nat → Bool} (h : IsPack w b wd n f) (m : Nat) : IsPack (w.drewN m) b wd n f := h
theorem IsPack.cells {w : World} {b wd n : Nat} {f : Nat → Bool} (h : IsPack w b wd n f) :
    ∃ bw L, (wd * n + 63) / 64 = L ∧ w.cell? ⟨b, 0, none⟩ = some (.int .i64 wd) ∧ w.cell? ⟨b, 1, none⟩ = some (.int .i64 n) ∧ w.cell? ⟨b, 2, none⟩ = some (.slice (some ⟨bw, 0, none⟩) L L) ∧ bw ≠ b ∧
      w.heap[bw]? = some (.cells (wordsOf (wd * n) f).toArray 67 (0, 0)) ∧ ∀ k, k < L → w.cell? ⟨bw, k, none⟩ = some (.int .u64 (word64 f k)) := by
  obtain ⟨bw, h1, h2, h3, _⟩ := h
  refine ⟨bw, _, rfl, (cell_heap h1).trans rfl, (cell_heap h1).trans rfl, (cell_heap h1).trans rfl, h3, h2, fun k hk => ?_⟩
  rw [cell_heap h2, List.getElem?_toArray, wordsOf_get _ _ k hk]

theorem and_mask (a wd : Nat) (ha : a < 18446744073709551616) (hw : wd ≤ 64) : bits .and .u64 (a : Int) ((2 ^ wd - 1 : Nat) : Int) = ((a &&& (2 ^ wd - 1) : Nat) : Int) := by
  have h2 : (2 : Nat) ^ wd ≤ 2 ^ 64 := Nat.pow_le_pow_right (by decide) hw
  exact u64_and_nat _ _ ha (by omega)
theorem shl_u64 (a r : Nat) : IntKind.u64.wrap ((a : Int) * 2 ^ r) = ((a * 2 ^ r % 18446744073709551616 : Nat) : Int) := by
  rw [IntKind.wrap_u64]
  simp
theorem shr_u64 (a r : Nat) : (a : Int) / 2 ^ r = ((a / 2 ^ r : Nat) : Int) := by simp

theorem packLen (b wd n : Nat) (f : Nat → Bool) (w : World) (h : IsPack w b wd n f) :
    Calls Try.prog 85 #[.pointer (some ⟨b, 0, none⟩)] w fun e w' => e = .returned (.int .i64 n) ∧ w = w' := by
  obtain ⟨bw, L, _, c0, c1, c2, _⟩ := h.cells
  go_enter Try.func85, Try.ntmps85
  go_wp2
  go_ret
  exact ⟨rfl, rfl⟩
theorem packHas (b wd n i : Nat) (f : Nat → Bool) (w : World) (h : IsPack w b wd n f) (hi : i < n) :
    Calls Try.prog 67 #[.pointer (some ⟨b, 0, none⟩), .int .i64 i] w fun e w' => e = .returned (.bool true) ∧ w = w' := by
  have hd : decide ((i : Int) < (n : Int)) = true := by simp; omega
  go_enter Try.func67, Try.ntmps67
  go_wp2_with (go_at_call 85; refine (packLen b wd n f _ h).mono ?_; rintro e w' ⟨rfl, rfl⟩)
  go_ret
  exact ⟨ret_bool (by simp), rfl⟩
theorem packMask (b wd n : Nat) (f : Nat → Bool) (w : World) (h : IsPack w b wd n f) :
    Calls Try.prog 68 #[.pointer (some ⟨b, 0, none⟩)] w fun e w' => e = .returned (.int .u64 (2 ^ wd - 1 : Nat)) ∧ w = w' := by
  obtain ⟨bw, L, _, c0, c1, c2, _⟩ := h.cells
  obtain ⟨_, _, _, _, hw1, hw, _⟩ := h
  have E := Lib.hid (mask_val wd hw)
  go_enter Try.func68, Try.ntmps68
  go_wp2
  go_ret
  refine ⟨ret_int ?_, rfl⟩
  rw [← E.out]
  simp

set_option maxHeartbeats 1000000 in
theorem packGet (b wd n i : Nat) (f : Nat → Bool) (w : World) (h : IsPack w b wd n f) (hi : i < n) :
    Calls Try.prog 42 #[.pointer (some ⟨b, 0, none⟩), .int .i64 i] w fun e w' => e = .returned (.int .u64 (numAt wd f i)) ∧ ∃ m, w' = w.drewN m := by
  have hh := h
  obtain ⟨bw, L, hL, c0, c1, c2, _, _, hc⟩ := h.cells
  obtain ⟨_, _, _, _, hw1, hw, hn⟩ := h
  have hm : i * wd + wd ≤ wd * n := by rw [Nat.mul_comm wd n, ← Nat.succ_mul]; exact Nat.mul_le_mul_right _ hi
  have hb : wd * n ≤ 67108864 := Nat.le_trans (Nat.mul_le_mul hw hn) (by decide)
  obtain ⟨p, hp⟩ : ∃ p, i * wd = p := ⟨_, rfl⟩
  have hpi : (i : Int) * (wd : Int) = (p : Int) := by rw [← hp]; simp
  have cw := hc (p / 64) (by omega)
  have hlt := word64_lt f (p / 64)
  have hq0 : (0 : Int) ≤ (p : Int) / 64 := by omega
  have hq1 : (p : Int) / 64 < (L : Int) := by omega
  have hq2 : ((p : Int) / 64).toNat = p / 64 := by omega
  have HG := Lib.hid (get_low f wd i hw)
  have HH := Lib.hid (get_high f wd i hw)
  rw [hp] at HG HH
  by_cases hs : p % 64 + wd ≤ 64
  · have hd : decide ((64 : Int) < (p : Int) % 64 + (wd : Int)) = false := by simp; omega
    have E := Lib.hid (HG.out hs)
    clear HG HH hc hp hL
    go_enter Try.func42, Try.ntmps42
    go_wp2_with (go_at_call 67; refine (packHas b wd n i f _ hh hi).mono ?_; rintro e w' ⟨rfl, rfl⟩)
    go_quiet (fail)
    go_wp2_with (go_at_call 68; refine (packMask b wd n f _ (hh.drewN _)).mono ?_; rintro e w' ⟨rfl, rfl⟩)
    go_ret
    refine ⟨ret_int ?_, nq, rfl⟩
    have hd2 := Nat.div_le_self (word64 f (p / 64)) (2 ^ (p % 64))
    rw [shr_u64, and_mask _ _ (by omega) hw, E.out]
  · have hd : decide ((64 : Int) < (p : Int) % 64 + (wd : Int)) = true := by simp; omega
    have E := Lib.hid (HH.out (by omega))
    have cw2 := hc (p / 64 + 1) (by omega)
    have hlt2 := word64_lt f (p / 64 + 1)
    have hq3 : (p : Int) / 64 + 1 < (L : Int) := by omega
    have hs2 : p % 64 ≤ 64 := by omega
    clear HG HH hc hp hL
    go_enter Try.func42, Try.ntmps42
    go_wp2_with (go_at_call 67; refine (packHas b wd n i f _ hh hi).mono ?_; rintro e w' ⟨rfl, rfl⟩)
    go_quiet (fail)
    go_wp2_with (go_at_call 68; refine (packMask b wd n f _ (hh.drewN _)).mono ?_; rintro e w' ⟨rfl, rfl⟩)
    go_ret
    refine ⟨ret_int ?_, nq, rfl⟩
    have hd2 := Nat.div_le_self (word64 f (p / 64)) (2 ^ (p % 64))
    have hd3 : word64 f (p / 64 + 1) * 2 ^ (64 - p % 64) % 18446744073709551616 < 18446744073709551616 := Nat.mod_lt _ (by decide)
    have hor : word64 f (p / 64) / 2 ^ (p % 64) ||| word64 f (p / 64 + 1) * 2 ^ (64 - p % 64) % 18446744073709551616 < 2 ^ 64 := Nat.or_lt_two_pow (by omega) (by omega)
    rw [shr_u64, shl_u64, u64_or_nat _ _ (by omega) hd3, and_mask _ _ (by omega) hw, E.out]
end Go.Proofs.Ythgnapngjmgkcaa
