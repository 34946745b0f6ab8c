import Derived.Test.YthgnapngjmgkcaaBits1
import Derived.StillTailTactics
import Derived.BigRegion
/- Package bits: a row of bits is made: the closures, made, New, Of. -/
namespace Go.Proofs.Ythgnapngjmgkcaa
open Go.RowKit

/-- one bit more -/
def upd (f : Nat → Bool) (i : Nat) : Nat → Bool := fun j => f j || j == i
theorem word64_upd_other (f : Nat → Bool) (i k : Nat) (h : k ≠ i / 64) : word64 (upd f i) k = word64 f k := by
  apply Nat.eq_of_testBit_eq
  intro j
  rw [word64_testBit, word64_testBit]
  by_cases hj : j < 64
  · have : 64 * k + j ≠ i := by omega
    simp [hj, upd, this]
  · simp [hj]
theorem word64_upd (f : Nat → Bool) (i : Nat) : word64 (upd f i) (i / 64) = word64 f (i / 64) ||| 2 ^ (i % 64) := by
  apply Nat.eq_of_testBit_eq
  intro j
  rw [Nat.testBit_or, word64_testBit, word64_testBit, Nat.testBit_two_pow]
  by_cases hj : j < 64
  · have : (64 * (i / 64) + j = i) ↔ i % 64 = j := by omega
    by_cases e : i % 64 = j
    · have e2 := this.2 e
      simp [hj, upd, e2, e]
    · have e2 : ¬ (64 * (i / 64) + j = i) := fun h => e (this.1 h)
      simp [hj, upd, e2, e]
  · have : ¬ (i % 64 = j) := by omega
    simp [hj, this]

theorem or_shift (f : Nat → Bool) (k : Nat) : bits .or .u64 (word64 f (k / 64)) (IntKind.u64.wrap (2 ^ (k % 64))) = (word64 (upd f k) (k / 64) : Nat) := by
  have hlt := word64_lt f (k / 64)
  have hp : (2 : Nat) ^ (k % 64) < 18446744073709551616 := Nat.pow_lt_pow_right (by decide) (show k % 64 < 64 by omega)
  have e1 : (2 : Int) ^ (k % 64) = ((2 ^ (k % 64) : Nat) : Int) := by simp
  rw [e1, wrap_small _ hp, u64_or_nat _ _ hlt hp, word64_upd]

/-- a row of bits while it is being laid: the box of n, the box of the pointer, the struct, its words -/
def Laying (W : World) (n bn bx bs bw : Nat) (f : Nat → Bool) : Prop :=
  W.cell? ⟨bn, 0, none⟩ = some (.int .i64 n) ∧ W.cell? ⟨bx, 0, none⟩ = some (.pointer (some ⟨bs, 0, none⟩)) ∧ W.cell? ⟨bs, 1, none⟩ = some (.slice (some ⟨bw, 0, none⟩) ((n + 63) / 64) ((n + 63) / 64)) ∧
    W.heap[bw]? = some (.cells (wordsOf n f).toArray 67 (0, 0)) ∧ bw ≠ bn ∧ bw ≠ bx ∧ bw ≠ bs ∧ n ≤ 1048576

theorem setIt (n bn bx bs bw : Nat) (f : Nat → Bool) (k : Nat) (w : World) (h : Laying w n bn bx bs bw f) (hk : k < n) :
    Calls Try.prog 83 #[.int .i64 k, .pointer (some ⟨bn, 0, none⟩), .pointer (some ⟨bx, 0, none⟩)] w fun e w' => e = .returned (.tuple #[]) ∧ ∃ m, w' = (w.setCell ⟨bw, k / 64, none⟩ (.int .u64 (word64 (upd f k) (k / 64)))).drewN m := by
  obtain ⟨h1, h2, h3, h4, n1, n2, n3, hn⟩ := h
  have hc : w.cell? ⟨bw, k / 64, none⟩ = some (.int .u64 (word64 f (k / 64))) := by
    simp only [World.cell?, h4]
    rw [if_neg (by simp), List.getElem?_toArray, wordsOf_get n f _ (by omega)]
  have hz : w.frozen? ⟨bw, k / 64, none⟩ = false := by simp [World.frozen?, h4]
  clear h4
  obtain ⟨L, hL⟩ : ∃ L, L = (n + 63) / 64 := ⟨_, rfl⟩
  rw [← hL] at h3
  have hq0 : (0 : Int) ≤ (k : Int) / 64 := by omega
  have hq1 : (k : Int) / 64 < (L : Int) := by omega
  have hq2 : ((k : Int) / 64).toNat = k / 64 := by omega
  clear hL
  have hr : k % 64 < 64 := by omega
  have hd1 : decide ((k : Int) < (n : Int)) = true := by simp; omega
  have HB := Lib.hid (or_shift f k)
  go_enter Try.func83, Try.ntmps83
  go_wp2
  go_region
  go_wp2
  go_end0
  refine ⟨rfl, 1, ?_⟩
  rw [← HB.out]
  rfl

theorem Laying.set {w : World} {n bn bx bs bw : Nat} {f : Nat → Bool} (h : Laying w n bn bx bs bw f) (k : Nat) (hk : k < n) (m : Nat) {f' : Nat → Bool} (hf : upd f k = f') :
    Laying ((w.setCell ⟨bw, k / 64, none⟩ (.int .u64 (word64 (upd f k) (k / 64)))).drewN m) n bn bx bs bw f' := by
  subst hf
  obtain ⟨h1, h2, h3, h4, n1, n2, n3, hn⟩ := h
  have other (b o : Nat) (hb : bw ≠ b) : ((w.setCell ⟨bw, k / 64, none⟩ (.int .u64 (word64 (upd f k) (k / 64)))).drewN m).cell? ⟨b, o, none⟩ = w.cell? ⟨b, o, none⟩ :=
    World.cell?_setCell_other _ _ _ _ (by intro e; injection e with e; exact hb e)
  refine ⟨by rw [other _ _ n1]; exact h1, by rw [other _ _ n2]; exact h2, by rw [other _ _ n3]; exact h3, ?_, n1, n2, n3, hn⟩
  show (w.setCell ⟨bw, k / 64, none⟩ (.int .u64 (word64 (upd f k) (k / 64)))).heap[bw]? = _
  simp only [World.setCell, Array.getElem?_modify, h4]
  simp only [if_true, Option.map_some, Option.isSome_none, Bool.false_eq_true, if_false]
  congr 2
  apply Array.ext_getElem?
  intro j
  rw [Array.getElem?_setIfInBounds, List.getElem?_toArray, List.getElem?_toArray, List.size_toArray, wordsOf_length]
  by_cases e : k / 64 = j
  · subst e
    rw [if_pos rfl, if_pos (by omega), wordsOf_get n _ _ (by omega)]
  · rw [if_neg e]
    by_cases hj : j < (n + 63) / 64
    · rw [wordsOf_get n _ _ hj, wordsOf_get n _ _ hj, word64_upd_other _ _ _ (Ne.symm e)]
    · rw [List.getElem?_eq_none (by simp; omega), List.getElem?_eq_none (by simp; omega)]
def inL (l : List Nat) (k : Nat) : Nat → Bool := fun j => decide (j ∈ l.take k)
theorem inL_succ (l : List Nat) (k : Nat) (h : k < l.length) : upd (inL l k) l[k] = inL l (k + 1) := by
  funext j
  unfold upd inL
  rw [List.take_succ_eq_append_getElem h]
  simp only [List.mem_append, List.mem_singleton]
  rw [Bool.eq_iff_iff]
  simp

theorem layNew (w0 w : World) (n bn bx bs bw bl : Nat) (v : Value) (l : List Nat) (h : Laying w n bn bx bs bw (fun _ => false)) (hB : Below w0.heap.size w0 w) (hbw : w0.heap.size ≤ bw)
    (hv : w0.cell? ⟨bl, 0, none⟩ = some v) (hs : Sl w0 v (nats l)) (hl : ∀ x ∈ l, x < n) :
    Calls Try.prog 58 #[.func (.func 83) #[] #[.pointer (some ⟨bn, 0, none⟩), .pointer (some ⟨bx, 0, none⟩)], .pointer (some ⟨bl, 0, none⟩)] w fun e w' => e = .returned (.tuple #[]) ∧ Laying w' n bn bx bs bw (fun j => decide (j ∈ l)) ∧ Below w0.heap.size w0 w' ∧ Keeps (· = bw) w w' := by
  have hv' := cell_below hB hv
  obtain ⟨ao, cap, rfl, hlc, hcm⟩ := hs.form
  have HS := Lib.hid hs
  have HL := Lib.hid hl
  clear hs hl
  rw [nats_length] at hv' hlc
  go_enter Try.func58, Try.ntmps58
  go_wp2
  go_loopw [7] (fun tk wr => ∃ k : Nat, k ≤ l.length ∧ tk = .int .i64 k ∧ Hid (Laying wr n bn bx bs bw (inL l k)) ∧ Below w0.heap.size w0 wr ∧ Keeps (· = bw) w wr) (fun tk _ => l.length - (intOf tk).toNat)
  case atStart => exact ⟨0, Nat.zero_le _, rfl, by have : inL l 0 = fun _ => false := by funext j; simp [inL]
                                                   rw [this]; exact h, hB, Keeps.refl _ _⟩
  case round =>
    obtain ⟨k, hk, rfl, hla, hb, hkp⟩ := hrel
    by_cases hlt : k < l.length
    · obtain ⟨b, off, rfl, hc⟩ := (HS.out.below hb).at_ k _ (nats_get l k hlt)
      have hln := HL.out l[k] (List.getElem_mem hlt)
      go_wp2_with (go_at_call 83; refine (setIt n bn bx bs bw (inL l k) l[k] _ hla.out hln).mono ?_; rintro e w' ⟨rfl, m, rfl⟩)
      go_roundw
      case rel =>
        exact ⟨k + 1, by omega, by go_num, hla.out.set l[k] hln m (inL_succ l k hlt), below_set hb hbw _ _ _, (hkp.setCell (a := ⟨bw, _, none⟩) rfl _).drewN _⟩
      case measure => simp [intOf]; omega
    · obtain rfl : k = l.length := by omega
      go_wp2
      go_end0
      refine ⟨rfl, ?_, hb, hkp⟩
      have := hla.out
      rw [show inL l l.length = fun j => decide (j ∈ l) by funext j; simp [inL]] at this
      exact this

def bools (l : List Bool) : List Value := l.map fun b => Value.bool b
@[simp] theorem bools_length (l : List Bool) : (bools l).length = l.length := by simp [bools]
theorem bools_get (l : List Bool) (i : Nat) (h : i < l.length) : (bools l)[i]? = some (.bool l[i]) := by simp [bools, h]
def upTo (l : List Bool) (k : Nat) : Nat → Bool := fun j => decide (j < k) && l.getD j false
theorem upTo_true (l : List Bool) (k : Nat) (h : k < l.length) (hb : l[k] = true) : upd (upTo l k) k = upTo l (k + 1) := by
  funext j
  unfold upd upTo
  by_cases e : j = k
  · subst e; simp [hb, h]
  · by_cases hj : j < k
    · simp [hj, e, show j < k + 1 by omega]
    · simp [hj, e, show ¬ j < k + 1 by omega]
theorem upTo_false (l : List Bool) (k : Nat) (h : k < l.length) (hb : l[k] = false) : upTo l k = upTo l (k + 1) := by
  funext j
  unfold upTo
  by_cases e : j = k
  · subst e; simp [hb, h]
  · by_cases hj : j < k
    · simp [hj, show j < k + 1 by omega]
    · simp [hj, show ¬ j < k + 1 by omega]

theorem layOf (w0 w : World) (bn bx bs bw bl : Nat) (v : Value) (l : List Bool) (h : Laying w l.length bn bx bs bw (fun _ => false)) (hB : Below w0.heap.size w0 w) (hbw : w0.heap.size ≤ bw)
    (hv : w0.cell? ⟨bl, 0, none⟩ = some v) (hs : Sl w0 v (bools l)) :
    Calls Try.prog 82 #[.func (.func 83) #[] #[.pointer (some ⟨bn, 0, none⟩), .pointer (some ⟨bx, 0, none⟩)], .pointer (some ⟨bl, 0, none⟩)] w fun e w' => e = .returned (.tuple #[]) ∧ Laying w' l.length bn bx bs bw (fun j => l.getD j false) ∧ Below w0.heap.size w0 w' ∧ Keeps (· = bw) w w' := by
  have hv' := cell_below hB hv
  obtain ⟨ao, cap, rfl, hlc, hcm⟩ := hs.form
  have HS := Lib.hid hs
  clear hs
  rw [bools_length] at hv' hlc
  go_enter Try.func82, Try.ntmps82
  go_wp2
  go_loopw [7] (fun tk wr => ∃ k : Nat, k ≤ l.length ∧ tk = .int .i64 k ∧ Hid (Laying wr l.length bn bx bs bw (upTo l k)) ∧ Below w0.heap.size w0 wr ∧ Keeps (· = bw) w wr) (fun tk _ => l.length - (intOf tk).toNat)
  case atStart => exact ⟨0, Nat.zero_le _, rfl, by have : upTo l 0 = fun _ => false := by funext j; simp [upTo]
                                                   rw [this]; exact h, hB, Keeps.refl _ _⟩
  case round =>
    obtain ⟨k, hk, rfl, hla, hb, hkp⟩ := hrel
    by_cases hlt : k < l.length
    · obtain ⟨b, off, rfl, hc⟩ := (HS.out.below hb).at_ k _ (bools_get l k hlt)
      cases hx : l[k]
      · rw [hx] at hc
        have HX := Lib.hid hx
        clear hx
        go_wp2
        go_roundw
        case rel =>
          exact ⟨k + 1, by omega, by go_num, (upTo_false l k hlt HX.out) ▸ hla.out, hb, hkp⟩
        case measure => simp [intOf]; omega
      · rw [hx] at hc
        have HX := Lib.hid hx
        clear hx
        go_wp2_with (go_at_call 83; refine (setIt l.length bn bx bs bw (upTo l k) k _ hla.out hlt).mono ?_; rintro e w' ⟨rfl, m, rfl⟩)
        go_roundw
        case rel =>
          exact ⟨k + 1, by omega, by go_num, hla.out.set k hlt m (upTo_true l k hlt HX.out), below_set hb hbw _ _ _, (hkp.setCell (a := ⟨bw, _, none⟩) rfl _).drewN _⟩
        case measure => simp [intOf]; omega
    · obtain rfl : k = l.length := by omega
      go_wp2
      go_end0
      refine ⟨rfl, ?_, hb, hkp⟩
      have := hla.out
      rw [show upTo l l.length = fun j => l.getD j false by
        funext j; unfold upTo
        by_cases hj : j < l.length
        · simp [hj]
        · simp [hj]] at this
      exact this
end Go.Proofs.Ythgnapngjmgkcaa
