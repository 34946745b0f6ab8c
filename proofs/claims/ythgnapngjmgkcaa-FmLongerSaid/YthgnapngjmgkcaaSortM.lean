import Derived.Test.YthgnapngjmgkcaaPop
/- Plain mathematics of the counting sort. No program. -/
namespace Go.Proofs.Ythgnapngjmgkcaa

/-- l sorted by keys below m; what is alike stays as it was -/
def sortBy (m : Nat) (K : Nat → Nat) (l : List Nat) : List Nat := (List.range m).flatMap fun v => l.filter fun p => K p == v
theorem sortBy_succ (m : Nat) (K : Nat → Nat) (l : List Nat) : sortBy (m + 1) K l = sortBy m K l ++ l.filter fun p => K p == m := by
  simp [sortBy, List.range_succ, List.flatMap_append]
theorem sortBy_mem (m : Nat) (K : Nat → Nat) (l : List Nat) (x : Nat) : x ∈ sortBy m K l ↔ x ∈ l ∧ K x < m := by
  simp [sortBy]
  exact And.comm
/-- where the key v begins -/
def startOf (K : Nat → Nat) (l : List Nat) (v : Nat) : Nat := (sortBy v K l).length
theorem startOf_zero (K : Nat → Nat) (l : List Nat) : startOf K l 0 = 0 := rfl
theorem startOf_succ (K : Nat → Nat) (l : List Nat) (v : Nat) : startOf K l (v + 1) = startOf K l v + (l.filter fun p => K p == v).length := by
  rw [startOf, sortBy_succ, List.length_append, startOf]
/-- where the i-th goes -/
def placeOf (K : Nat → Nat) (l : List Nat) (i : Nat) : Nat := startOf K l (K (l.getD i 0)) + ((l.take i).filter fun p => K p == K (l.getD i 0)).length

theorem filter_place (p : Nat → Bool) (l : List Nat) (r x : Nat) (h : (l.filter p)[r]? = some x) : ∃ i, l[i]? = some x ∧ p x = true ∧ ((l.take i).filter p).length = r := by
  induction l generalizing r with
  | nil => simp at h
  | cons y l ih =>
    by_cases hy : p y = true
    · rw [List.filter_cons, if_pos hy] at h
      cases r with
      | zero =>
        simp at h
        subst h
        exact ⟨0, rfl, hy, rfl⟩
      | succ r =>
        rw [List.getElem?_cons_succ] at h
        obtain ⟨i, h1, h2, h3⟩ := ih r h
        exact ⟨i + 1, by simpa using h1, h2, by simp [List.filter_cons, hy, h3]⟩
    · rw [List.filter_cons, if_neg hy] at h
      obtain ⟨i, h1, h2, h3⟩ := ih r h
      exact ⟨i + 1, by simpa using h1, h2, by simp [List.filter_cons, hy, h3]⟩
theorem place_filter (p : Nat → Bool) (l : List Nat) (i x : Nat) (h : l[i]? = some x) (hp : p x = true) : (l.filter p)[((l.take i).filter p).length]? = some x := by
  obtain ⟨hi, rfl⟩ := List.getElem?_eq_some_iff.1 h
  have e : l.filter p = (l.take i).filter p ++ (l.drop i).filter p := by rw [← List.filter_append, List.take_append_drop]
  rw [e, List.getElem?_append_right (Nat.le_refl _), Nat.sub_self, List.drop_eq_getElem_cons hi, List.filter_cons, if_pos hp]
  rfl
theorem sortBy_up (K : Nat → Nat) (l : List Nat) (m d q x : Nat) (h : (sortBy m K l)[q]? = some x) : (sortBy (m + d) K l)[q]? = some x := by
  induction d with
  | zero => exact h
  | succ d ih =>
    rw [← Nat.add_assoc, sortBy_succ]
    have := (List.getElem?_eq_some_iff.1 ih).1
    rw [List.getElem?_append_left this]
    exact ih
theorem sortBy_at (m : Nat) (K : Nat → Nat) (l : List Nat) (i x : Nat) (h : l[i]? = some x) (hm : K x < m) : (sortBy m K l)[placeOf K l i]? = some x := by
  have hg : l.getD i 0 = x := by rw [List.getD_eq_getElem?_getD, h]; rfl
  obtain ⟨d, rfl⟩ := Nat.exists_eq_add_of_lt hm
  rw [show K x + d + 1 = K x + 1 + d by omega]
  apply sortBy_up
  rw [sortBy_succ, placeOf, hg, startOf, List.getElem?_append_right (by omega), Nat.add_sub_cancel_left]
  exact place_filter _ l i x h (by simp)
theorem sortBy_from (m : Nat) (K : Nat → Nat) (l : List Nat) (q : Nat) (h : q < (sortBy m K l).length) : ∃ i, i < l.length ∧ placeOf K l i = q := by
  induction m with
  | zero => simp [sortBy] at h
  | succ m ih =>
    rw [sortBy_succ, List.length_append] at h
    by_cases h1 : q < (sortBy m K l).length
    · exact ih h1
    · obtain ⟨x, hx⟩ : ∃ x, (l.filter fun p => K p == m)[q - (sortBy m K l).length]? = some x := ⟨_, List.getElem?_eq_getElem (by omega)⟩
      obtain ⟨i, a, b, c⟩ := filter_place _ l _ x hx
      have hb : K x = m := by simpa using b
      refine ⟨i, (List.getElem?_eq_some_iff.1 a).1, ?_⟩
      rw [placeOf, List.getD_eq_getElem?_getD, a, Option.getD_some, hb, c, startOf]
      omega

theorem perm_split (p q : Nat → Bool) (l : List Nat) (h : ∀ x, ¬(p x = true ∧ q x = true)) : (l.filter p ++ l.filter q).Perm (l.filter fun x => p x || q x) := by
  induction l with
  | nil => exact List.Perm.refl _
  | cons y l ih =>
    have hy := h y
    by_cases h1 : p y = true
    · have h2 : q y = false := by simpa [h1] using hy
      simp only [List.filter_cons, h1, h2, Bool.true_or, if_true, Bool.false_eq_true, if_false, List.cons_append]
      exact ih.cons y
    · by_cases h2 : q y = true
      · have h1 : p y = false := by simpa using h1
        simp only [List.filter_cons, h1, h2, Bool.or_true, if_true, Bool.false_eq_true, if_false]
        exact List.perm_middle.trans (ih.cons y)
      · have h1 : p y = false := by simpa using h1
        have h2 : q y = false := by simpa using h2
        simp only [List.filter_cons, h1, h2, Bool.or_false, Bool.false_eq_true, if_false]
        exact ih
theorem sortBy_filter (m : Nat) (K : Nat → Nat) (l : List Nat) : (sortBy m K l).Perm (l.filter fun p => decide (K p < m)) := by
  induction m with
  | zero => simp [sortBy]
  | succ m ih =>
    rw [sortBy_succ]
    refine (ih.append_right _).trans ((perm_split _ _ l ?_).trans ?_)
    · intro x; simp; omega
    · rw [show (fun x => decide (K x < m) || K x == m) = (fun p => decide (K p < m + 1)) from funext fun x => by rw [Bool.eq_iff_iff]; simp; omega]
theorem sortBy_perm (m : Nat) (K : Nat → Nat) (l : List Nat) (h : ∀ x ∈ l, K x < m) : (sortBy m K l).Perm l := by
  have := sortBy_filter m K l
  rwa [List.filter_eq_self.2 fun x hx => by simpa using h x hx] at this
theorem sortBy_pairwise {R : Nat → Nat → Prop} (m : Nat) (K : Nat → Nat) (l : List Nat) (h : l.Pairwise R) : (sortBy m K l).Pairwise fun a b => K a < K b ∨ K a = K b ∧ R a b := by
  induction m with
  | zero => simp [sortBy]
  | succ m ih =>
    rw [sortBy_succ, List.pairwise_append]
    refine ⟨ih, ?_, fun a ha b hb => .inl ?_⟩
    · refine List.Pairwise.imp_of_mem ?_ (h.filter _)
      intro a b ha hb hr
      have h1 := (List.mem_filter.1 ha).2
      have h2 := (List.mem_filter.1 hb).2
      simp at h1 h2
      exact .inr ⟨by omega, hr⟩
    · have h1 := ((sortBy_mem m K l a).1 ha).2
      have h2 := (List.mem_filter.1 hb).2
      simp at h2
      omega
theorem filter_cnt (p : Nat → Bool) (l : List Nat) (n : Nat) (h : l.Perm (List.range n)) : (l.filter p).length = cnt p n := by
  rw [(h.filter p).length_eq]
  clear h
  induction n with
  | zero => rfl
  | succ n ih =>
    rw [List.range_succ, List.filter_append, List.length_append, ih, cnt]
    by_cases hp : p n = true <;> simp [List.filter_cons, hp]
/-- the row of a table -/
def tabOf (n : Nat) (g : Nat → Nat) : List Nat := (List.range n).map g
@[simp] theorem tabOf_length (n : Nat) (g : Nat → Nat) : (tabOf n g).length = n := by simp [tabOf]
theorem tabOf_get (n : Nat) (g : Nat → Nat) (i : Nat) (h : i < n) : (tabOf n g)[i]? = some (g i) := by simp [tabOf, h]
theorem tabOf_getD (n : Nat) (l : List Nat) (h : l.length = n) : tabOf n (fun i => l.getD i 0) = l := by
  apply List.ext_getElem?
  intro i
  by_cases hi : i < n
  · rw [tabOf_get _ _ _ hi, List.getD_eq_getElem?_getD, List.getElem?_eq_getElem (by omega)]; rfl
  · rw [List.getElem?_eq_none (by simp; omega), List.getElem?_eq_none (by omega)]
theorem tabOf_congr {n : Nat} {g h : Nat → Nat} (e : ∀ i, i < n → g i = h i) : tabOf n g = tabOf n h := List.map_congr_left fun i hi => e i (List.mem_range.1 hi)
end Go.Proofs.Ythgnapngjmgkcaa
