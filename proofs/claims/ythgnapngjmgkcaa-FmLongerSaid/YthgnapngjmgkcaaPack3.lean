import Derived.Test.YthgnapngjmgkcaaPack2
import Derived.Test.YthgnapngjmgkcaaShelf
/- Package packed: New, Pack. -/
namespace Go.Proofs.Ythgnapngjmgkcaa
open Go.RowKit

theorem bitLenAux_lt (f x : Nat) (h : x < 2 ^ f) : x < 2 ^ Lib.bitLenAux f x ∧ Lib.bitLenAux f x ≤ f := by
  induction f generalizing x with
  | zero => simp at h; subst h; simp [Lib.bitLenAux]
  | succ f ih =>
    unfold Lib.bitLenAux
    split
    · rename_i h0; subst h0; simp
    · have := ih (x / 2) (by rw [Nat.pow_succ] at h; omega)
      rw [Nat.pow_add]
      omega
theorem bitLen_lt (x : Nat) (h : x < 18446744073709551616) : x < 2 ^ Lib.bitLen x ∧ Lib.bitLen x ≤ 64 := bitLenAux_lt 64 x h

def MadePack (w : World) (wd n : Nat) (e : Ending) (w' : World) : Prop :=
  ∃ b bw, e = .returned (.tuple #[.pointer (some ⟨b, 0, none⟩), .int .i64 0]) ∧ w.heap.size ≤ b ∧ w.heap.size ≤ bw ∧ IsPackAt w' b bw wd n (fun _ => false) ∧ Below w.heap.size w w'

theorem words_zero (n L : Nat) (h : (n + 63) / 64 = L) : (madeCells #[.int .u64 0] L : Array Value) = (wordsOf n (fun _ => false)).toArray := by
  subst h
  apply Array.toList_inj.1
  rw [toList_madeCells_one]
  unfold wordsOf
  apply List.ext_getElem
  · simp
  · intro i h1 h2
    have : word64 (fun _ => false) i = 0 := by
      apply Nat.eq_of_testBit_eq; intro j; rw [word64_testBit]; simp
    simp [this]

theorem packNew (w : World) (wd n : Nat) (hw1 : 1 ≤ wd) (hw : wd ≤ 64) (hn : n ≤ 1048576) :
    Calls Try.prog 60 #[.int .i64 wd, .int .i64 n] w (MadePack w wd n) := by
  obtain ⟨T, hT⟩ : ∃ T, wd * n = T := ⟨_, rfl⟩
  have hTb : T ≤ 67108864 := hT ▸ Nat.le_trans (Nat.mul_le_mul hw hn) (by decide)
  have hTi : (wd : Int) * (n : Int) = (T : Int) := by rw [← hT]; simp
  obtain ⟨L, hL⟩ : ∃ L, (T + 63) / 64 = L := ⟨_, rfl⟩
  have hq : ((T : Int) + 64 - 1) / 64 = (L : Int) := by omega
  have hmk := make_u64 L (by omega)
  have HL := Lib.hid hL
  have HT := Lib.hid hT
  clear hL hT
  have d1 : decide ((wd : Int) < 1) = false := by simp; omega
  have d2 : decide ((64 : Int) < (wd : Int)) = false := by simp; omega
  have d3 : decide ((1048576 : Int) < (n : Int)) = false := by simp; omega
  go_enter Try.func60, Try.ntmps60
  go_wp2
  go_ret2
  have ew := words_zero (wd * n) L (by rw [HT.out]; exact HL.out)
  refine ⟨w.heap.size + 1, w.heap.size, rfl, by omega, by omega, ⟨?_, ?_, by omega, hw1, hw, hn⟩, below_two _ _ _⟩
  · rw [(two_blocks _ _ _).2, HT.out, HL.out]
  · rw [(two_blocks _ _ _).1, ew]

/-- the numbers of a row -/
def u64s (l : List Nat) : List Value := l.map fun x : Nat => Value.int .u64 (x : Int)
@[simp] theorem u64s_length (l : List Nat) : (u64s l).length = l.length := by simp [u64s]
theorem u64s_get (l : List Nat) (i : Nat) (h : i < l.length) : (u64s l)[i]? = some (.int .u64 l[i]) := by simp [u64s, h]

/-- the width that holds the first k -/
def wideTo (l : List Nat) : Nat → Nat
  | 0 => 1
  | k + 1 => max (wideTo l k) (Lib.bitLen (l.getD k 0))
theorem wideTo_ok (l : List Nat) (h : ∀ x ∈ l, x < 18446744073709551616) (k : Nat) : 1 ≤ wideTo l k ∧ wideTo l k ≤ 64 ∧ ∀ i, i < k → l.getD i 0 < 2 ^ wideTo l k := by
  induction k with
  | zero => exact ⟨Nat.le_refl _, by unfold wideTo; omega, fun i hi => by omega⟩
  | succ k ih =>
    have hx : l.getD k 0 < 18446744073709551616 := by
      by_cases hk : k < l.length
      · rw [List.getD_eq_getElem?_getD, List.getElem?_eq_getElem hk]; exact h _ (List.getElem_mem hk)
      · rw [List.getD_eq_getElem?_getD, List.getElem?_eq_none (by omega)]; decide
    have hb := bitLen_lt _ hx
    simp only [wideTo]
    refine ⟨by omega, by omega, fun i hi => ?_⟩
    rcases Nat.lt_succ_iff_lt_or_eq.1 hi with h1 | rfl
    · exact Nat.lt_of_lt_of_le (ih.2.2 i h1) (Nat.pow_le_pow_right (by decide) (by omega))
    · exact Nat.lt_of_lt_of_le hb.1 (Nat.pow_le_pow_right (by decide) (by omega))

def Packed (w : World) (l : List Nat) (e : Ending) (w' : World) : Prop :=
  ∃ b bw wd f, e = .returned (.pointer (some ⟨b, 0, none⟩)) ∧ w.heap.size ≤ b ∧ w.heap.size ≤ bw ∧ IsPackAt w' b bw wd l.length f ∧ (∀ i, i < l.length → numAt wd f i = l.getD i 0) ∧ Below w.heap.size w w'

theorem len64 (x : Nat) (w : World) (h : x < 18446744073709551616) :
    Calls Try.prog 59 #[.int .u64 x] w fun e w' => e = .returned (.int .i64 (Lib.bitLen x)) ∧ w = w' :=
  (Try.bits_Len64 x w (by omega) (by omega)).mono fun e w' ⟨he, hw⟩ => ⟨by rw [he, Int.toNat_natCast], hw.symm⟩

set_option maxHeartbeats 1000000 in
theorem packPack (w : World) (v : Value) (l : List Nat) (hs : Sl w v (u64s l)) (h0 : 0 < l.length) (hn : l.length ≤ 1048576) (hl : ∀ x ∈ l, x < 18446744073709551616) :
    Calls Try.prog 38 #[v] w (Packed w l) := by
  have hwide := wideTo_ok l hl
  obtain ⟨b, off, cap, rfl, hlc, hcm, hc⟩ := hs.full (by simpa using h0)
  rw [u64s_length] at hlc ⊢
  have hmin : min (l.length : Int) 1048576 = l.length := by omega
  have HC := Lib.hid hc
  have HW := Lib.hid hwide
  have HLX := Lib.hid hl
  clear hc hwide hl hs
  go_enter Try.func38, Try.ntmps38
  go_wp2
  go_loop [3, 17] (fun tw tk => ∃ k : Nat, k ≤ l.length ∧ tk = .int .i64 k ∧ tw = .int .i64 (wideTo l k : Nat)) (fun _ tk => l.length - (intOf tk).toNat)
  case atStart => exact ⟨0, Nat.zero_le _, rfl, rfl⟩
  case round =>
    obtain ⟨k, hk, rfl, rfl⟩ := hrel
    by_cases hlt : k < l.length
    · have c := HC.out k _ (u64s_get l k hlt)
      have hx := HLX.out l[k] (List.getElem_mem hlt)
      have hb := (bitLen_lt _ hx).2
      have hw := (HW.out k).2.1
      have hmx : max ((wideTo l k : Nat) : Int) ((Lib.bitLen l[k] : Nat) : Int) = ((wideTo l (k + 1) : Nat) : Int) := by
        simp only [wideTo, List.getD_eq_getElem?_getD, List.getElem?_eq_getElem hlt, Option.getD_some]; omega
      go_wp2_with (go_at_call 59; refine (len64 l[k] _ hx).mono ?_; rintro e w' ⟨rfl, rfl⟩)
      go_round
      case rel => exact ⟨k + 1, by omega, by go_num, rfl⟩
      case measure => simp [intOf]; omega
    · obtain rfl : k = l.length := by omega
      have hwd := HW.out l.length
      go_wp2_with (go_at_call 60; refine (packNew _ (wideTo l l.length) l.length hwd.1 hwd.2.1 hn).mono ?_; rintro e w1 ⟨b1, bw1, rfl, g1, g2, g3, g4⟩)
      have HW1 := Lib.hid hwd
      clear hwd
      generalize hwe : wideTo l l.length = wd at HW1 g3 ⊢
      clear hwe
      go_loopw [35] (fun tk wr => ∃ (k : Nat) (f : Nat → Bool), k ≤ l.length ∧ tk = .int .i64 k ∧ Hid (IsPackAt wr b1 bw1 wd l.length f) ∧ Hid (∀ i, i < k → numAt wd f i = l.getD i 0) ∧ Below w.heap.size w wr) (fun tk _ => l.length - (intOf tk).toNat)
      case atStart => exact ⟨0, _, Nat.zero_le _, rfl, g3, fun i hi => by omega, g4⟩
      case round =>
        obtain ⟨k, f, hk, rfl, hp, hnum, hB⟩ := hrel
        by_cases hlt : k < l.length
        · have c := cell_below hB (HC.out k _ (u64s_get l k hlt))
          have hx : l[k] < 2 ^ wd := by
            have := HW1.out.2.2 k hlt
            rwa [List.getD_eq_getElem?_getD, List.getElem?_eq_getElem hlt] at this
          have HX := Lib.hid hx
          clear hx
          go_wp2_with (go_at_call 61; refine (packSet b1 bw1 wd l.length k l[k] f _ hp.out hlt HX.out).mono ?_; rintro e w2 ⟨rfl, hp2, hk2⟩)
          go_roundw
          case rel =>
            refine ⟨k + 1, _, by omega, by go_num, hp2, fun i hi => ?_, hB.trans (hk2.below (fun i e => by omega) hB.size)⟩
            rcases Nat.lt_succ_iff_lt_or_eq.1 hi with h1 | rfl
            · rw [numAt_lay_less _ _ _ _ _ h1, hnum.out i h1]
            · rw [numAt_lay_same _ _ _ _ HX.out, List.getD_eq_getElem?_getD, List.getElem?_eq_getElem hlt]; rfl
          case measure => simp [intOf]; omega
        · obtain rfl : k = l.length := by omega
          go_wp2
          go_ret
          exact ⟨b1, bw1, wd, f, rfl, g1, g2, hp.out, hnum.out, hB⟩
end Go.Proofs.Ythgnapngjmgkcaa
