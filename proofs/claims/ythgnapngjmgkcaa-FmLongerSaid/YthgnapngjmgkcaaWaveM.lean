import Derived.Test.YthgnapngjmgkcaaPop
/- Plain mathematics of a wavelet tree: rows of symbols, parted digit by digit. No program. -/
namespace Go.Proofs.Ythgnapngjmgkcaa

def part (p : Nat → Bool) (l : List Nat) : List Nat := l.filter (fun c => !p c) ++ l.filter p
def bitsOf (p : Nat → Bool) (l : List Nat) : Nat → Bool := fun j => match l[j]? with | some c => p c | none => false

theorem bitsOf_beyond (p : Nat → Bool) (l : List Nat) (j : Nat) (h : l.length ≤ j) : bitsOf p l j = false := by
  unfold bitsOf; rw [List.getElem?_eq_none h]
theorem bitsOf_mid (p : Nat → Bool) (A : List Nat) (x : Nat) (B : List Nat) : bitsOf p (A ++ x :: B) A.length = p x := by
  unfold bitsOf; simp

theorem cnt_bitsOf (p : Nat → Bool) (l : List Nat) (i : Nat) : cnt (bitsOf p l) i = ((l.take i).filter p).length := by
  induction i with
  | zero => simp [cnt]
  | succ i ih =>
    simp only [cnt, ih]
    by_cases h : i < l.length
    · rw [List.take_succ_eq_append_getElem h, List.filter_append, List.length_append]
      have : bitsOf p l i = p l[i] := by unfold bitsOf; rw [List.getElem?_eq_getElem h]
      rw [this]
      by_cases hp : p l[i] = true <;> simp [List.filter_cons, hp]
    · rw [bitsOf_beyond p l i (by omega), List.take_of_length_le (by omega), List.take_of_length_le (by omega)]
      simp
theorem filter_not_length (p : Nat → Bool) (l : List Nat) : (l.filter (fun c => !p c)).length + (l.filter p).length = l.length := by
  induction l with
  | nil => rfl
  | cons x l ih =>
    by_cases h : p x = true <;> simp [List.filter_cons, h] <;> omega

/-- where a place goes -/
def toN (p : Nat → Bool) (l : List Nat) (c : Bool) (i : Nat) : Nat := if c then (l.filter (fun x => !p x)).length + cnt (bitsOf p l) i else i - cnt (bitsOf p l) i

theorem part_length (p : Nat → Bool) (l : List Nat) : (part p l).length = l.length := by
  rw [part, List.length_append, filter_not_length]

/-- a piece of a row, on the next level -/
theorem part_piece (p : Nat → Bool) (A S B : List Nat) (c : Bool) :
    ∃ A' B', part p (A ++ S ++ B) = A' ++ S.filter (fun x => p x == c) ++ B' ∧ toN p (A ++ S ++ B) c A.length = A'.length ∧
      toN p (A ++ S ++ B) c (A.length + S.length) = A'.length + (S.filter (fun x => p x == c)).length := by
  have c1 : cnt (bitsOf p (A ++ S ++ B)) A.length = (A.filter p).length := by rw [cnt_bitsOf]; simp
  have c2 : cnt (bitsOf p (A ++ S ++ B)) (A.length + S.length) = (A.filter p).length + (S.filter p).length := by
    rw [cnt_bitsOf, List.take_append_of_le_length (by simp), ← List.length_append, List.take_length]; simp
  have fA := filter_not_length p A
  have fS := filter_not_length p S
  cases c
  · refine ⟨A.filter (fun x => !p x), B.filter (fun x => !p x) ++ (A ++ S ++ B).filter p, ?_, ?_, ?_⟩
    · simp [part, List.filter_append]
    · unfold toN; rw [c1, if_neg (by simp)]; omega
    · unfold toN; rw [c2, if_neg (by simp), show (fun x => p x == false) = (fun x => !p x) from funext fun x => by simp]; omega
  · refine ⟨(A ++ S ++ B).filter (fun x => !p x) ++ A.filter p, B.filter p, ?_, ?_, ?_⟩
    · simp [part, List.filter_append]
    · unfold toN; rw [c1, if_pos rfl, List.length_append]
    · unfold toN; rw [c2, if_pos rfl, List.length_append, show (fun x => p x == true) = p from funext fun x => by simp]; omega

/-- the k-th digit of wd, the highest first -/
def bitN (wd k c : Nat) : Bool := c.testBit (wd - 1 - k)
def rowAt (wd : Nat) (s : List Nat) : Nat → List Nat
  | 0 => s
  | k + 1 => part (bitN wd k) (rowAt wd s k)
theorem rowAt_length (wd : Nat) (s : List Nat) (k : Nat) : (rowAt wd s k).length = s.length := by
  induction k with
  | zero => rfl
  | succ k ih => rw [rowAt, part_length, ih]
theorem rowAt_mem (wd : Nat) (s : List Nat) (k x : Nat) : x ∈ rowAt wd s k ↔ x ∈ s := by
  induction k with
  | zero => exact Iff.rfl
  | succ k ih =>
    rw [rowAt, part, List.mem_append, List.mem_filter, List.mem_filter, ih]
    constructor
    · rintro (⟨h, _⟩ | ⟨h, _⟩) <;> exact h
    · intro h; cases hb : bitN wd k x
      · exact .inl ⟨h, by simp [hb]⟩
      · exact .inr ⟨h, by simp [hb]⟩
def lvBits (wd : Nat) (s : List Nat) (k : Nat) : Nat → Bool := bitsOf (bitN wd k) (rowAt wd s k)
def lvZeros (wd : Nat) (s : List Nat) (k : Nat) : Nat := ((rowAt wd s k).filter (fun x => !bitN wd k x)).length
theorem lvZeros_le (wd : Nat) (s : List Nat) (k : Nat) : lvZeros wd s k ≤ s.length := by
  rw [← rowAt_length wd s k]; exact List.length_filter_le _ _

/-- do the first k digits agree? -/
def agree (wd c : Nat) : Nat → Nat → Bool
  | 0, _ => true
  | k + 1, x => agree wd c k x && (bitN wd k x == bitN wd k c)
theorem agree_bits {wd c k x : Nat} (h : agree wd c k x = true) : ∀ j, j < k → bitN wd j x = bitN wd j c := by
  induction k with
  | zero => intro j hj; omega
  | succ k ih =>
    simp only [agree, Bool.and_eq_true, beq_iff_eq] at h
    intro j hj
    rcases Nat.lt_succ_iff_lt_or_eq.1 hj with h1 | rfl
    · exact ih h.1 j h1
    · exact h.2
theorem agree_self (wd c k : Nat) : agree wd c k c = true := by
  induction k with
  | zero => rfl
  | succ k ih => simp [agree, ih]
theorem agree_all {wd c x : Nat} (hc : c < 2 ^ wd) (hx : x < 2 ^ wd) : agree wd c wd x = (x == c) := by
  rw [Bool.eq_iff_iff, beq_iff_eq]
  constructor
  · intro h
    apply Nat.eq_of_testBit_eq
    intro j
    by_cases hj : j < wd
    · have := agree_bits h (wd - 1 - j) (by omega)
      unfold bitN at this
      rwa [show wd - 1 - (wd - 1 - j) = j by omega] at this
    · rw [Nat.testBit_lt_two_pow (Nat.lt_of_lt_of_le hx (Nat.pow_le_pow_right (by decide) (by omega))), Nat.testBit_lt_two_pow (Nat.lt_of_lt_of_le hc (Nat.pow_le_pow_right (by decide) (by omega)))]
  · rintro rfl; exact agree_self _ _ _

/-- the piece of the k-th row that the first i symbols with c's first k digits fill -/
def Piece (wd c : Nat) (s : List Nat) (i k fr to : Nat) : Prop :=
  ∃ A B, rowAt wd s k = A ++ (s.take i).filter (agree wd c k) ++ B ∧ fr = A.length ∧ to = A.length + ((s.take i).filter (agree wd c k)).length
theorem filter_all (l : List Nat) : l.filter (fun _ => true) = l := List.filter_eq_self.2 fun _ _ => rfl
theorem agree_zero (wd c : Nat) : agree wd c 0 = fun _ => true := rfl
theorem Piece.start (wd c : Nat) (s : List Nat) (i : Nat) (hi : i ≤ s.length) : Piece wd c s i 0 0 i := by
  refine ⟨[], s.drop i, ?_, rfl, ?_⟩
  · rw [agree_zero, filter_all, List.nil_append, List.take_append_drop, rowAt]
  · rw [agree_zero, filter_all, List.length_take, List.length_nil]; omega
theorem Piece.step {wd c : Nat} {s : List Nat} {i k fr to : Nat} (h : Piece wd c s i k fr to) :
    Piece wd c s i (k + 1) (toN (bitN wd k) (rowAt wd s k) (bitN wd k c) fr) (toN (bitN wd k) (rowAt wd s k) (bitN wd k c) to) := by
  obtain ⟨A, B, hr, rfl, rfl⟩ := h
  obtain ⟨A', B', h1, h2, h3⟩ := part_piece (bitN wd k) A ((s.take i).filter (agree wd c k)) B (bitN wd k c)
  rw [← hr] at h1 h2 h3
  have e : ((s.take i).filter (agree wd c k)).filter (fun x => bitN wd k x == bitN wd k c) = (s.take i).filter (agree wd c (k + 1)) := by
    rw [List.filter_filter]
    congr 1
    funext x
    simp only [agree, Bool.and_comm]
  rw [e] at h1 h3
  exact ⟨A', B', h1, h2, h3⟩
theorem Piece.le {wd c : Nat} {s : List Nat} {i k fr to : Nat} (h : Piece wd c s i k fr to) : fr ≤ to ∧ to ≤ s.length := by
  obtain ⟨A, B, hr, rfl, rfl⟩ := h
  have := congrArg List.length hr
  rw [rowAt_length] at this
  simp only [List.length_append] at this
  omega
theorem Piece.done {wd c : Nat} {s : List Nat} {i fr to : Nat} (h : Piece wd c s i wd fr to) (hc : c < 2 ^ wd) (hs : ∀ x ∈ s, x < 2 ^ wd) : to - fr = (s.take i).count c := by
  obtain ⟨A, B, hr, rfl, rfl⟩ := h
  rw [Nat.add_sub_cancel_left, List.count_eq_length_filter]
  congr 1
  apply List.filter_congr
  intro x hx
  exact agree_all hc (hs x (List.mem_of_mem_take hx))

/-- the place of one symbol, level by level -/
def Spot (wd : Nat) (s : List Nat) (x k at_ : Nat) : Prop := ∃ A B, rowAt wd s k = A ++ x :: B ∧ at_ = A.length
theorem Spot.start (wd : Nat) (s : List Nat) (x i : Nat) (h : s[i]? = some x) : Spot wd s x 0 i := by
  obtain ⟨hi, rfl⟩ := List.getElem?_eq_some_iff.1 h
  refine ⟨s.take i, s.drop (i + 1), ?_, by simp; omega⟩
  rw [rowAt, List.getElem_cons_drop, List.take_append_drop]
theorem Spot.bit {wd : Nat} {s : List Nat} {x k a : Nat} (h : Spot wd s x k a) : lvBits wd s k a = bitN wd k x := by
  obtain ⟨A, B, hr, rfl⟩ := h
  rw [lvBits, hr, bitsOf_mid]
theorem Spot.lt {wd : Nat} {s : List Nat} {x k a : Nat} (h : Spot wd s x k a) : a < s.length := by
  obtain ⟨A, B, hr, rfl⟩ := h
  have := congrArg List.length hr
  rw [rowAt_length] at this
  simp at this
  omega
theorem Spot.step {wd : Nat} {s : List Nat} {x k a : Nat} (h : Spot wd s x k a) : Spot wd s x (k + 1) (toN (bitN wd k) (rowAt wd s k) (bitN wd k x) a) := by
  obtain ⟨A, B, hr, rfl⟩ := h
  obtain ⟨A', B', h1, h2, h3⟩ := part_piece (bitN wd k) A [x] B (bitN wd k x)
  have e : A ++ [x] ++ B = A ++ x :: B := by simp
  rw [e, ← hr] at h1 h2
  refine ⟨A', B', ?_, h2⟩
  rw [rowAt, h1]
  simp
theorem digit_step (wd k x : Nat) (h : k < wd) : x / 2 ^ (wd - (k + 1)) = 2 * (x / 2 ^ (wd - k)) + (if bitN wd k x then 1 else 0) := by
  have e : wd - k = (wd - (k + 1)) + 1 := by omega
  rw [e, Nat.pow_succ, ← Nat.div_div_eq_div_mul, bitN, show wd - 1 - k = wd - (k + 1) by omega, Nat.testBit_eq_decide_div_mod_eq]
  generalize x / 2 ^ (wd - (k + 1)) = y
  by_cases hy : y % 2 = 1 <;> simp [hy] <;> omega

end Go.Proofs.Ythgnapngjmgkcaa
