import Derived.Test.YthgnapngjmgkcaaFmT
/- Plain mathematics of an index: the places that are written down. No program. -/
namespace Go.Proofs.Ythgnapngjmgkcaa

def mark8 (p : Nat) : Bool := p % 8 == 0
def sampled (sa : List Nat) : List Nat := sa.filter mark8
def marks (sa : List Nat) : Nat → Bool := fun j => decide (j < sa.length) && mark8 (sa.getD j 0)
def onesTo (sa : List Nat) (k : Nat) : List Nat := (List.range k).filter fun j => mark8 (sa.getD j 0)
theorem cnt_take (p : Nat → Bool) (l : List Nat) (i : Nat) (h : i ≤ l.length) : cnt (fun j => p (l.getD j 0)) i = ((l.take i).filter p).length := by
  induction i with
  | zero => rfl
  | succ i ih =>
    have hl : i < l.length := by omega
    have e : l.getD i 0 = l[i] := by rw [List.getD_eq_getElem?_getD, List.getElem?_eq_getElem hl]; rfl
    rw [List.take_succ_eq_append_getElem hl, List.filter_append, List.length_append, ← ih (by omega)]
    show cnt _ i + (if p (l.getD i 0) = true then 1 else 0) = _
    rw [e]
    by_cases hp : p l[i] = true
    · simp [List.filter_cons, hp]
    · simp [List.filter_cons, hp]
theorem marks_cnt (sa : List Nat) (i : Nat) (h : i ≤ sa.length) : cnt (marks sa) i = ((sa.take i).filter mark8).length := by
  rw [← cnt_take mark8 sa i h]
  refine cnt_congr i fun j hj => ?_
  simp [marks, show j < sa.length by omega]
theorem sampled_at (sa : List Nat) (j : Nat) (hj : j < sa.length) (hm : mark8 (sa.getD j 0) = true) : (sampled sa).getD (cnt (marks sa) j) 0 = sa.getD j 0 ∧ cnt (marks sa) j < (sampled sa).length := by
  have e : sa[j]? = some (sa.getD j 0) := by rw [List.getD_eq_getElem?_getD, List.getElem?_eq_getElem hj]; rfl
  have := place_filter mark8 sa j _ e hm
  rw [← marks_cnt sa j (by omega)] at this
  refine ⟨?_, (List.getElem?_eq_some_iff.1 this).1⟩
  rw [List.getD_eq_getElem?_getD]
  show ((sa.filter mark8)[cnt (marks sa) j]?).getD 0 = _
  rw [this]; rfl
theorem mark8_range (n : Nat) : (List.range n).filter mark8 = (List.range ((n + 7) / 8)).map (8 * ·) := by
  induction n with
  | zero => rfl
  | succ n ih =>
    rw [List.range_succ, List.filter_append, ih]
    by_cases h : n % 8 = 0
    · rw [show (n + 1 + 7) / 8 = (n + 7) / 8 + 1 by omega, List.range_succ, List.map_append]
      have : mark8 n = true := by simp [mark8, h]
      rw [List.filter_cons, if_pos this]
      simp; omega
    · rw [show (n + 1 + 7) / 8 = (n + 7) / 8 by omega]
      have : ¬ mark8 n = true := by simp [mark8, h]
      rw [List.filter_cons, if_neg this]
      simp
theorem sampled_length {s sa : List Nat} (h : IsSA s sa) : (sampled sa).length = (s.length + 7) / 8 := by
  have := (h.1.filter mark8).length_eq
  rw [sampled, this, mark8_range]; simp
theorem sampled_mem {s sa : List Nat} (h : IsSA s sa) (x : Nat) : x ∈ sampled sa ↔ x < s.length ∧ x % 8 = 0 := by
  rw [sampled, List.mem_filter, sa_mem h]; simp [mark8]
theorem ones_sampled (sa : List Nat) (k : Nat) (h : k ≤ sa.length) : (onesTo sa k).map (fun j => sa.getD j 0) = (sa.take k).filter mark8 := by
  induction k with
  | zero => rfl
  | succ k ih =>
    have hl : k < sa.length := by omega
    have e : sa.getD k 0 = sa[k] := by rw [List.getD_eq_getElem?_getD, List.getElem?_eq_getElem hl]; rfl
    rw [onesTo, List.range_succ, List.filter_append, List.map_append, List.take_succ_eq_append_getElem hl, List.filter_append]
    have := ih (by omega)
    rw [onesTo] at this
    rw [this]
    congr 1
    by_cases hp : mark8 sa[k] = true
    · rw [List.filter_cons, List.filter_cons, if_pos (by rw [e]; exact hp), if_pos hp, List.filter_nil, List.map_cons, List.map_nil, e]; rfl
    · rw [List.filter_cons, List.filter_cons, if_neg (by rw [e]; exact hp), if_neg hp]; simp
theorem onesTo_length (sa : List Nat) (k : Nat) (h : k ≤ sa.length) : (onesTo sa k).length = ((sa.take k).filter mark8).length := by
  rw [← ones_sampled sa k h, List.length_map]
theorem onesTo_lt (sa : List Nat) (k : Nat) : ∀ x ∈ onesTo sa k, x < k := by
  intro x hx
  have := (List.mem_filter.1 hx).1
  simpa using this
/-- the row of the order in which a written place stands -/
theorem ones_rk {s sa : List Nat} (h : IsSA s sa) (i : Nat) (hi : i < (sampled sa).length) : (onesTo sa s.length).getD i 0 = rk sa ((sampled sa).getD i 0) := by
  have hsl := sa_len h
  have hm := ones_sampled sa s.length (by omega)
  rw [List.take_of_length_le (by omega)] at hm
  have hlen : (onesTo sa s.length).length = (sampled sa).length := by rw [onesTo_length sa _ (by omega), List.take_of_length_le (by omega)]; rfl
  have hi' : i < (onesTo sa s.length).length := by omega
  have e1 : (onesTo sa s.length).getD i 0 = (onesTo sa s.length)[i] := by rw [List.getD_eq_getElem?_getD, List.getElem?_eq_getElem hi']; rfl
  have e2 : (sampled sa).getD i 0 = sa.getD (onesTo sa s.length)[i] 0 := by
    show (sa.filter mark8).getD i 0 = _
    rw [← hm, List.getD_eq_getElem?_getD, List.getElem?_map, List.getElem?_eq_getElem hi']; rfl
  rw [e1, e2, rk_sa h (onesTo_lt sa _ _ (List.getElem_mem hi'))]
theorem marks_ones {s sa : List Nat} (h : IsSA s sa) : (fun j => decide (j ∈ onesTo sa s.length)) = marks sa := by
  funext j
  rw [Bool.eq_iff_iff]
  simp [onesTo, marks, sa_len h]
theorem ones_step (sa : List Nat) (k : Nat) : onesTo sa (k + 1) = if mark8 (sa.getD k 0) = true then onesTo sa k ++ [k] else onesTo sa k := by
  rw [onesTo, List.range_succ, List.filter_append]
  by_cases h : mark8 (sa.getD k 0) = true
  · rw [if_pos h, List.filter_cons, if_pos h]; rfl
  · rw [if_neg h, List.filter_cons, if_neg h]; simp [onesTo]
def samplesTo (sa : List Nat) (k : Nat) : List Nat := (sa.take k).filter mark8
theorem samples_step (sa : List Nat) (k : Nat) (h : k < sa.length) : samplesTo sa (k + 1) = if mark8 (sa.getD k 0) = true then samplesTo sa k ++ [sa.getD k 0] else samplesTo sa k := by
  have e : sa.getD k 0 = sa[k] := by rw [List.getD_eq_getElem?_getD, List.getElem?_eq_getElem h]; rfl
  rw [samplesTo, List.take_succ_eq_append_getElem h, List.filter_append, e]
  by_cases hm : mark8 sa[k] = true
  · rw [if_pos hm, List.filter_cons, if_pos hm]; rfl
  · rw [if_neg hm, List.filter_cons, if_neg hm]; simp [samplesTo]
end Go.Proofs.Ythgnapngjmgkcaa
