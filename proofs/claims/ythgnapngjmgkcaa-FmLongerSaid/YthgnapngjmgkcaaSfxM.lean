import Derived.Test.YthgnapngjmgkcaaSortM
/- Plain mathematics of suffix arrays: orders to a depth, doubling. No program. -/
namespace Go.Proofs.Ythgnapngjmgkcaa

/-- the symbol at a place, one more; behind the end 0 -/
def sym (s : List Nat) (i : Nat) : Nat := match s[i]? with | some c => c + 1 | none => 0
theorem sym_in (s : List Nat) (i : Nat) (h : i < s.length) : sym s i = s.getD i 0 + 1 := by
  rw [sym, List.getElem?_eq_getElem h, List.getD_eq_getElem?_getD, List.getElem?_eq_getElem h]; rfl
theorem sym_out (s : List Nat) (i : Nat) (h : s.length ≤ i) : sym s i = 0 := by rw [sym, List.getElem?_eq_none h]
/-- is the ending at i less than that at j, as far as k symbols tell? -/
def ltk (s : List Nat) : Nat → Nat → Nat → Prop
  | 0, _, _ => False
  | k + 1, i, j => sym s i < sym s j ∨ sym s i = sym s j ∧ ltk s k (i + 1) (j + 1)
def eqk (s : List Nat) : Nat → Nat → Nat → Prop
  | 0, _, _ => True
  | k + 1, i, j => sym s i = sym s j ∧ eqk s k (i + 1) (j + 1)
theorem eqk_symm {s : List Nat} {k i j : Nat} (h : eqk s k i j) : eqk s k j i := by
  induction k generalizing i j with
  | zero => trivial
  | succ k ih => exact ⟨h.1.symm, ih h.2⟩
theorem eqk_refl (s : List Nat) (k i : Nat) : eqk s k i i := by
  induction k generalizing i with
  | zero => trivial
  | succ k ih => exact ⟨rfl, ih _⟩
theorem tri (s : List Nat) (k i j : Nat) : ltk s k i j ∨ eqk s k i j ∨ ltk s k j i := by
  induction k generalizing i j with
  | zero => exact .inr (.inl trivial)
  | succ k ih =>
    rcases Nat.lt_trichotomy (sym s i) (sym s j) with h | h | h
    · exact .inl (.inl h)
    · rcases ih (i + 1) (j + 1) with a | a | a
      · exact .inl (.inr ⟨h, a⟩)
      · exact .inr (.inl ⟨h, a⟩)
      · exact .inr (.inr (.inr ⟨h.symm, a⟩))
    · exact .inr (.inr (.inl h))
theorem ltk_not_eqk {s : List Nat} {k i j : Nat} (h : ltk s k i j) : ¬ eqk s k i j := by
  induction k generalizing i j with
  | zero => exact h.elim
  | succ k ih =>
    rintro ⟨a, b⟩
    rcases h with h | ⟨_, h⟩
    · omega
    · exact ih h b
theorem ltk_asymm {s : List Nat} {k i j : Nat} (h : ltk s k i j) : ¬ ltk s k j i := by
  induction k generalizing i j with
  | zero => exact h.elim
  | succ k ih =>
    intro h'
    rcases h with h | ⟨e, h⟩ <;> rcases h' with h' | ⟨e', h'⟩
    · omega
    · omega
    · omega
    · exact ih h h'
theorem ltk_irrefl (s : List Nat) (k i : Nat) : ¬ ltk s k i i := fun h => ltk_not_eqk h (eqk_refl s k i)
theorem ltk_add (s : List Nat) (a b i j : Nat) : ltk s (a + b) i j ↔ ltk s a i j ∨ eqk s a i j ∧ ltk s b (i + a) (j + a) := by
  induction a generalizing i j with
  | zero => simp [ltk, eqk]
  | succ a ih =>
    rw [Nat.succ_add]
    simp only [ltk, eqk]
    rw [ih, show i + 1 + a = i + (a + 1) by omega, show j + 1 + a = j + (a + 1) by omega]
    constructor
    · rintro (h | ⟨h, h1 | ⟨h1, h2⟩⟩)
      · exact .inl (.inl h)
      · exact .inl (.inr ⟨h, h1⟩)
      · exact .inr ⟨⟨h, h1⟩, h2⟩
    · rintro ((h | ⟨h, h1⟩) | ⟨⟨h, h1⟩, h2⟩)
      · exact .inl h
      · exact .inr ⟨h, .inl h1⟩
      · exact .inr ⟨h, .inr ⟨h1, h2⟩⟩
theorem ltk_up {s : List Nat} {a i j : Nat} (b : Nat) (h : ltk s a i j) : ltk s (a + b) i j := (ltk_add s a b i j).2 (.inl h)
theorem eqk_get {s : List Nat} {k i j : Nat} (h : eqk s k i j) : ∀ t, t < k → sym s (i + t) = sym s (j + t) := by
  induction k generalizing i j with
  | zero => intro t ht; omega
  | succ k ih =>
    intro t ht
    cases t with
    | zero => exact h.1
    | succ t =>
      have := ih h.2 t (by omega)
      rwa [show i + 1 + t = i + (t + 1) by omega, show j + 1 + t = j + (t + 1) by omega] at this
/-- endings of a row differ within its length -/
theorem eqk_end {s : List Nat} {k i j : Nat} (hk : s.length ≤ k) (hi : i < s.length) (hj : j < s.length) (h : eqk s k i j) : i = j := by
  rcases Nat.lt_trichotomy i j with hlt | e | hlt
  · have := eqk_get h (s.length - j) (by omega)
    rw [show j + (s.length - j) = s.length by omega, sym_out s _ (Nat.le_refl _), sym_in s _ (by omega)] at this
    omega
  · exact e
  · have := eqk_get h (s.length - i) (by omega)
    rw [show i + (s.length - i) = s.length by omega, sym_out s _ (Nat.le_refl _), sym_in s _ (by omega)] at this
    omega
/-- the order of endings -/
def slt (s : List Nat) (i j : Nat) : Prop := ∃ k, ltk s k i j
def IsSA (s sa : List Nat) : Prop := sa.Perm (List.range s.length) ∧ sa.Pairwise (slt s)

/-- ranks to the depth k -/
def Ranks (s : List Nat) (k : Nat) (r : Nat → Nat) : Prop := ∀ i j, i < s.length → j < s.length → (r i < r j ↔ ltk s k i j)
theorem Ranks.eq {s : List Nat} {k : Nat} {r : Nat → Nat} (h : Ranks s k r) {i j : Nat} (hi : i < s.length) (hj : j < s.length) : r i = r j ↔ eqk s k i j := by
  constructor
  · intro e
    rcases tri s k i j with a | a | a
    · have := (h i j hi hj).2 a; omega
    · exact a
    · have := (h j i hj hi).2 a; omega
  · intro e
    rcases Nat.lt_trichotomy (r i) (r j) with a | a | a
    · exact absurd e (ltk_not_eqk ((h i j hi hj).1 a))
    · exact a
    · exact absurd (eqk_symm e) (ltk_not_eqk ((h j i hj hi).1 a))
/-- the key of the second half -/
def second (s : List Nat) (k : Nat) (r : Nat → Nat) (a : Nat) : Nat := if a + k < s.length then r (a + k) + 1 else 0
theorem ltk_out (s : List Nat) (k i j : Nat) (hi : s.length ≤ i) (hj : j < s.length) (hk : 1 ≤ k) : ltk s k i j := by
  obtain ⟨k, rfl⟩ := Nat.exists_eq_add_of_le' hk
  left
  rw [sym_out s i hi, sym_in s j hj]; omega
theorem eqk_out (s : List Nat) (k i j : Nat) (hi : s.length ≤ i) (hj : s.length ≤ j) : eqk s k i j := by
  induction k generalizing i j with
  | zero => trivial
  | succ k ih => exact ⟨by rw [sym_out s i hi, sym_out s j hj], ih _ _ (by omega) (by omega)⟩
theorem second_lt {s : List Nat} {k : Nat} {r : Nat → Nat} (h : Ranks s k r) (hk : 1 ≤ k) (a b : Nat) : second s k r a < second s k r b ↔ ltk s k (a + k) (b + k) := by
  unfold second
  by_cases ha : a + k < s.length <;> by_cases hb : b + k < s.length
  · rw [if_pos ha, if_pos hb, ← h _ _ ha hb]; omega
  · rw [if_pos ha, if_neg hb]
    constructor
    · intro h; omega
    · intro hl; exact absurd (ltk_out s k _ _ (by omega) ha hk) (ltk_asymm hl)
  · rw [if_neg ha, if_pos hb]
    exact ⟨fun _ => ltk_out s k _ _ (by omega) hb hk, fun _ => by omega⟩
  · rw [if_neg ha, if_neg hb]
    exact ⟨fun h => by omega, fun hl => absurd (eqk_out s k _ _ (by omega) (by omega)) (ltk_not_eqk hl)⟩
/-- keys in pairs tell twice as deep -/
theorem pair_lt {s : List Nat} {k : Nat} {r : Nat → Nat} (h : Ranks s k r) (hk : 1 ≤ k) {a b : Nat} (ha : a < s.length) (hb : b < s.length) :
    (r a < r b ∨ r a = r b ∧ second s k r a < second s k r b) ↔ ltk s (k + k) a b := by
  rw [ltk_add, ← h a b ha hb, h.eq ha hb, second_lt h hk]

/-! the new ranks, place by place -/
def changes (s : List Nat) (k : Nat) (r : Nat → Nat) (S : Nat → Nat) : Nat → Nat
  | 0 => 0
  | t + 1 => changes s k r S t + if r (S t) ≠ r (S (t + 1)) ∨ second s k r (S t) ≠ second s k r (S (t + 1)) then 1 else 0
theorem changes_mono (s : List Nat) (k : Nat) (r : Nat → Nat) (S : Nat → Nat) (t d : Nat) : changes s k r S t ≤ changes s k r S (t + d) := by
  induction d with
  | zero => exact Nat.le_refl _
  | succ d ih => rw [← Nat.add_assoc, changes]; omega
theorem changes_le (s : List Nat) (k : Nat) (r : Nat → Nat) (S : Nat → Nat) (t : Nat) : changes s k r S t ≤ t := by
  induction t with
  | zero => exact Nat.le_refl _
  | succ t ih => rw [changes]; split <;> omega
theorem changes_dense (s : List Nat) (k : Nat) (r : Nat → Nat) (S : Nat → Nat) (t v : Nat) (h : v ≤ changes s k r S t) : ∃ u, u ≤ t ∧ changes s k r S u = v := by
  induction t with
  | zero => exact ⟨0, Nat.le_refl _, by have : changes s k r S 0 = 0 := rfl; omega⟩
  | succ t ih =>
    by_cases hv : v ≤ changes s k r S t
    · obtain ⟨u, a, b⟩ := ih hv; exact ⟨u, by omega, b⟩
    · refine ⟨t + 1, Nat.le_refl _, ?_⟩
      rw [changes] at h ⊢
      split at h <;> simp_all <;> omega
def pairLe (s : List Nat) (k : Nat) (r : Nat → Nat) (a b : Nat) : Prop := r a < r b ∨ r a = r b ∧ second s k r a ≤ second s k r b
theorem changes_eq (s : List Nat) (k : Nat) (r : Nat → Nat) (S : Nat → Nat) (n : Nat) (hS : ∀ t u, t < u → u < n → pairLe s k r (S t) (S u)) (t d : Nat) (hd : t + d < n) :
    changes s k r S t = changes s k r S (t + d) ↔ r (S t) = r (S (t + d)) ∧ second s k r (S t) = second s k r (S (t + d)) := by
  induction d with
  | zero => simp
  | succ d ih =>
    have ih := ih (by omega)
    have hm := changes_mono s k r S t d
    have h1 : pairLe s k r (S (t + d)) (S (t + d + 1)) := hS _ _ (by omega) (by omega)
    have h2 : t + d = t ∨ pairLe s k r (S t) (S (t + d)) := by
      cases d with
      | zero => exact .inl rfl
      | succ d => exact .inr (hS _ _ (by omega) (by omega))
    rw [← Nat.add_assoc, changes]
    unfold pairLe at h1 h2
    constructor
    · intro e
      split at e
      · omega
      · rename_i hn
        have e1 := ih.1 (by omega)
        omega
    · rintro ⟨e1, e2⟩
      have hx : r (S t) = r (S (t + d)) ∧ second s k r (S t) = second s k r (S (t + d)) := by
        rcases h2 with h2 | h2
        · rw [h2]; exact ⟨rfl, rfl⟩
        · omega
      rw [if_neg (by omega), ih.2 hx]
      rfl

/-! a row of places, sorted by pairs -/
def Placed (n : Nat) (S : Nat → Nat) : Prop := (∀ t, t < n → S t < n) ∧ ∀ i, i < n → ∃ t, t < n ∧ S t = i
theorem placed_of {l : List Nat} {n : Nat} (h : l.Perm (List.range n)) : Placed n (fun t => l.getD t 0) := by
  have hl : l.length = n := by simpa using h.length_eq
  refine ⟨fun t ht => ?_, fun i hi => ?_⟩
  · have : l.getD t 0 ∈ l := by rw [List.getD_eq_getElem?_getD, List.getElem?_eq_getElem (by omega)]; exact List.getElem_mem _
    simpa using h.mem_iff.1 this
  · have : i ∈ l := h.mem_iff.2 (by simpa using hi)
    obtain ⟨t, ht, e⟩ := List.getElem_of_mem this
    exact ⟨t, by omega, by show l.getD t 0 = i; rw [List.getD_eq_getElem?_getD, List.getElem?_eq_getElem ht]; exact e⟩
theorem pairwise_getD {R : Nat → Nat → Prop} {l : List Nat} (h : l.Pairwise R) (t u : Nat) (htu : t < u) (hu : u < l.length) : R (l.getD t 0) (l.getD u 0) := by
  rw [List.getD_eq_getElem?_getD, List.getD_eq_getElem?_getD, List.getElem?_eq_getElem (by omega), List.getElem?_eq_getElem hu]
  exact List.pairwise_iff_getElem.1 h t u (by omega) hu htu
theorem Ranks.next {s : List Nat} {k : Nat} {r nx S : Nat → Nat} (h : Ranks s k r) (hk : 1 ≤ k) (hp : Placed s.length S) (hS : ∀ t u, t < u → u < s.length → pairLe s k r (S t) (S u)) (hn : ∀ t, t < s.length → nx (S t) = changes s k r S t) : Ranks s (k + k) nx := by
  intro i j hi hj
  obtain ⟨t, ht, rfl⟩ := hp.2 i hi
  obtain ⟨u, hu, rfl⟩ := hp.2 j hj
  rw [hn t ht, hn u hu, ← pair_lt h hk hi hj]
  rcases Nat.lt_trichotomy t u with hlt | rfl | hlt
  · obtain ⟨d, rfl⟩ := Nat.exists_eq_add_of_lt hlt
    have e := changes_eq s k r S s.length hS t (d + 1) hu
    have m := changes_mono s k r S t (d + 1)
    have hle : pairLe s k r (S t) (S (t + d + 1)) := hS _ _ hlt hu
    rw [← Nat.add_assoc] at e m
    unfold pairLe at hle
    omega
  · omega
  · obtain ⟨d, rfl⟩ := Nat.exists_eq_add_of_lt hlt
    have m := changes_mono s k r S u (d + 1)
    have hle : pairLe s k r (S u) (S (u + d + 1)) := hS _ _ hlt ht
    rw [← Nat.add_assoc] at m
    unfold pairLe at hle
    omega
/-- every rank below 'many' is taken, no other -/
def Dense (n many : Nat) (r : Nat → Nat) : Prop := (∀ i, i < n → r i < many) ∧ ∀ v, v < many → ∃ i, i < n ∧ r i = v
theorem Dense.next {s : List Nat} {k : Nat} {r nx S : Nat → Nat} (hp : Placed s.length S) (hn : ∀ t, t < s.length → nx (S t) = changes s k r S t) (h0 : 0 < s.length) :
    Dense s.length (nx (S (s.length - 1)) + 1) nx := by
  rw [hn _ (by omega)]
  refine ⟨fun i hi => ?_, fun v hv => ?_⟩
  · obtain ⟨t, ht, rfl⟩ := hp.2 i hi
    rw [hn t ht]
    have := changes_mono s k r S t (s.length - 1 - t)
    rw [show t + (s.length - 1 - t) = s.length - 1 by omega] at this
    omega
  · obtain ⟨u, hu, e⟩ := changes_dense s k r S (s.length - 1) v (by omega)
    exact ⟨S u, hp.1 u (by omega), by rw [hn u (by omega)]; exact e⟩

theorem startOf_many {K : Nat → Nat} {l : List Nat} (m : Nat) (h : ∀ v, v < m → 1 ≤ (l.filter fun p => K p == v).length) : m ≤ startOf K l m := by
  induction m with
  | zero => exact Nat.zero_le _
  | succ m ih =>
    have := ih fun v hv => h v (by omega)
    have := h m (by omega)
    rw [startOf_succ]; omega
theorem startOf_more {K : Nat → Nat} {l : List Nat} (m x : Nat) (h : ∀ v, v < m → 1 ≤ (l.filter fun p => K p == v).length) (hx : x < m) (h2 : 2 ≤ (l.filter fun p => K p == x).length) : m + 1 ≤ startOf K l m := by
  induction m with
  | zero => omega
  | succ m ih =>
    rw [startOf_succ]
    by_cases e : x = m
    · subst e
      have := startOf_many x fun v hv => h v (by omega)
      omega
    · have := ih (fun v hv => h v (by omega)) (by omega)
      have := h m (by omega)
      omega
theorem startOf_few {K : Nat → Nat} {l : List Nat} (m : Nat) (h : ∀ v, v < m → (l.filter fun p => K p == v).length ≤ 1) : startOf K l m ≤ m := by
  induction m with
  | zero => exact Nat.le_refl _
  | succ m ih =>
    have := ih fun v hv => h v (by omega)
    have := h m (by omega)
    rw [startOf_succ]; omega
theorem two_in_filter {p : Nat → Bool} {l : List Nat} {i j : Nat} (hi : i ∈ l) (hj : j ∈ l) (hij : i ≠ j) (pi : p i = true) (pj : p j = true) : 2 ≤ (l.filter p).length := by
  have a : i ∈ l.filter p := List.mem_filter.2 ⟨hi, pi⟩
  have b : j ∈ l.filter p := List.mem_filter.2 ⟨hj, pj⟩
  match hq : l.filter p with
  | [] => rw [hq] at a; simp at a
  | [x] => rw [hq] at a b; simp at a b; omega
  | x :: y :: r => simp
theorem one_in_filter {p : Nat → Bool} {l : List Nat} (hn : l.Nodup) (h : ∀ i ∈ l, ∀ j ∈ l, p i = true → p j = true → i = j) : (l.filter p).length ≤ 1 := by
  have hd := hn.filter p
  match hq : l.filter p with
  | [] => simp
  | [x] => simp
  | x :: y :: r =>
    have hx : x ∈ l.filter p := by rw [hq]; simp
    have hy : y ∈ l.filter p := by rw [hq]; simp
    have e := h x (List.mem_filter.1 hx).1 y (List.mem_filter.1 hy).1 (List.mem_filter.1 hx).2 (List.mem_filter.1 hy).2
    rw [hq] at hd
    simp [e] at hd
theorem Dense.inj {n many : Nat} {r : Nat → Nat} (h : Dense n many r) (hm : n ≤ many) : ∀ i j, i < n → j < n → r i = r j → i = j := by
  intro i j hi hj e
  by_cases hij : i = j
  · exact hij
  · have h1 : ∀ v, v < many → 1 ≤ ((List.range n).filter fun p => r p == v).length := fun v hv => by
      obtain ⟨x, hx, rfl⟩ := h.2 v hv
      exact List.length_pos_of_mem (List.mem_filter.2 ⟨by simpa using hx, by simp⟩)
    have h2 := startOf_more (K := r) (l := List.range n) many (r i) h1 (h.1 i hi) (two_in_filter (by simpa using hi) (by simpa using hj) hij (by simp) (by simp [e]))
    have h3 := (sortBy_perm many r (List.range n) fun x hx => h.1 x (by simpa using hx)).length_eq
    rw [List.length_range] at h3
    unfold startOf at h2
    omega
theorem Dense.many {n many : Nat} {r : Nat → Nat} (h : Dense n many r) (hi : ∀ i j, i < n → j < n → r i = r j → i = j) : n ≤ many := by
  have h2 := startOf_few (K := r) (l := List.range n) many fun v _ => one_in_filter List.nodup_range fun i hi' j hj' a b => by
    simp at hi' hj' a b
    exact hi i j hi' hj' (by omega)
  have h3 := (sortBy_perm many r (List.range n) fun x hx => h.1 x (by simpa using hx)).length_eq
  rw [List.length_range] at h3
  unfold startOf at h2
  omega
theorem Dense.le {n many : Nat} {r : Nat → Nat} (h : Dense n many r) : many ≤ n := by
  have h1 : ∀ v, v < many → 1 ≤ ((List.range n).filter fun p => r p == v).length := fun v hv => by
    obtain ⟨x, hx, rfl⟩ := h.2 v hv
    exact List.length_pos_of_mem (List.mem_filter.2 ⟨by simpa using hx, by simp⟩)
  have h2 := startOf_many (K := r) (l := List.range n) many h1
  have h3 := (sortBy_perm many r (List.range n) fun x hx => h.1 x (by simpa using hx)).length_eq
  rw [List.length_range] at h3
  unfold startOf at h2
  omega
/-- as long as some ranks are alike, the depth is less than the row -/
theorem depth_lt {s : List Nat} {k many : Nat} {r : Nat → Nat} (h : Ranks s k r) (hd : Dense s.length many r) (hm : many < s.length) : k < s.length := by
  apply Nat.lt_of_not_le
  intro hk
  have := hd.many fun i j hi hj e => eqk_end hk hi hj ((h.eq hi hj).1 e)
  omega
theorem sa_done {s sa : List Nat} {k many : Nat} {r : Nat → Nat} (h : Ranks s k r) (hd : Dense s.length many r) (hm : s.length ≤ many) (hp : sa.Perm (List.range s.length)) (hs : sa.Pairwise fun a b => r a ≤ r b) : IsSA s sa := by
  refine ⟨hp, ?_⟩
  have hn : sa.Nodup := hp.nodup_iff.2 List.nodup_range
  refine List.Pairwise.imp_of_mem ?_ (hs.and hn)
  intro a b ha hb ⟨h1, h2⟩
  have ha : a < s.length := by simpa using hp.mem_iff.1 ha
  have hb : b < s.length := by simpa using hp.mem_iff.1 hb
  have : r a ≠ r b := fun e => h2 (hd.inj hm a b ha hb e)
  exact ⟨k, (h a b ha hb).1 (by omega)⟩

/-- by the second half: those that have none come first -/
def halves (n k : Nat) (sa : List Nat) : List Nat := (List.range k).map (fun i => n - k + i) ++ (sa.filter fun p => decide (k ≤ p)).map (fun p => p - k)
theorem filter_ge (n k : Nat) (h : k ≤ n) : ((List.range n).filter fun p => decide (k ≤ p)).map (fun p => p - k) = List.range (n - k) := by
  obtain ⟨d, rfl⟩ := Nat.exists_eq_add_of_le h
  rw [Nat.add_sub_cancel_left]
  induction d with
  | zero =>
    rw [Nat.add_zero, List.range_zero, List.map_eq_nil_iff, List.filter_eq_nil_iff]
    intro a ha
    simp at ha ⊢
    omega
  | succ d ih =>
    rw [← Nat.add_assoc, List.range_succ, List.filter_append, List.map_append, ih (by omega), List.range_succ]
    simp [List.filter_cons]
theorem halves_perm {n k : Nat} {sa : List Nat} (hk : k ≤ n) (hp : sa.Perm (List.range n)) : (halves n k sa).Perm (List.range n) := by
  have h1 := ((hp.filter fun p => decide (k ≤ p)).map (fun p => p - k))
  rw [filter_ge n k hk] at h1
  refine (h1.append_left _).trans (List.perm_append_comm.trans ?_)
  have : List.range n = List.range (n - k) ++ (List.range k).map (fun i => n - k + i) := by
    rw [← List.range_add]; congr 1; omega
  rw [this]
theorem halves_sorted {s sa : List Nat} {k : Nat} {r : Nat → Nat} (hp : sa.Perm (List.range s.length)) (hs : sa.Pairwise fun a b => r a ≤ r b) : (halves s.length k sa).Pairwise fun a b => second s k r a ≤ second s k r b := by
  unfold halves
  rw [List.pairwise_append]
  refine ⟨?_, ?_, ?_⟩
  · refine List.Pairwise.imp_of_mem (R := fun _ _ => True) ?_ (List.pairwise_of_forall fun _ _ => trivial)
    intro a b ha hb _
    obtain ⟨i, hi, rfl⟩ := List.mem_map.1 ha
    have hi : i < k := by simpa using hi
    unfold second
    rw [if_neg (by omega)]
    exact Nat.zero_le _
  · rw [List.pairwise_map]
    refine List.Pairwise.imp_of_mem ?_ (hs.filter _)
    intro a b ha hb h
    have ha1 : k ≤ a := by simpa using (List.mem_filter.1 ha).2
    have hb1 : k ≤ b := by simpa using (List.mem_filter.1 hb).2
    have hb2 : b < s.length := by simpa using hp.mem_iff.1 (List.mem_filter.1 hb).1
    have ha2 : a < s.length := by simpa using hp.mem_iff.1 (List.mem_filter.1 ha).1
    unfold second
    rw [Nat.sub_add_cancel ha1, Nat.sub_add_cancel hb1, if_pos ha2, if_pos hb2]
    omega
  · intro a ha b hb
    obtain ⟨i, hi, rfl⟩ := List.mem_map.1 ha
    have hi : i < k := by simpa using hi
    unfold second
    rw [if_neg (by omega)]
    exact Nat.zero_le _
/-- the halves, the first j gone through -/
def halvesTo (n k : Nat) (sa : List Nat) (j : Nat) : List Nat := (List.range k).map (fun i => n - k + i) ++ ((sa.take j).filter fun p => decide (k ≤ p)).map (fun p => p - k)
theorem halvesTo_all (n k : Nat) (sa : List Nat) (h : sa.length = n) : halvesTo n k sa n = halves n k sa := by
  unfold halvesTo halves; rw [List.take_of_length_le (by omega)]
theorem halvesTo_zero (n k : Nat) (sa : List Nat) : halvesTo n k sa 0 = (List.range k).map (fun i => n - k + i) := by simp [halvesTo]
theorem halvesTo_zero_len (n k : Nat) (sa : List Nat) : (halvesTo n k sa 0).length = k := by simp [halvesTo]
theorem halvesTo_zero_get (n k : Nat) (sa : List Nat) (q : Nat) (h : q < k) : (halvesTo n k sa 0).getD q 0 = n - k + q := by
  rw [halvesTo_zero, List.getD_eq_getElem?_getD]; simp [h]
theorem halvesTo_next (n k : Nat) (sa : List Nat) (j p : Nat) (h : sa[j]? = some p) : halvesTo n k sa (j + 1) = if k ≤ p then halvesTo n k sa j ++ [p - k] else halvesTo n k sa j := by
  unfold halvesTo
  rw [List.take_add_one, h, List.filter_append, List.map_append]
  by_cases hp : k ≤ p <;> simp [hp]
theorem halvesTo_len {n k : Nat} {sa : List Nat} (hk : k ≤ n) (hp : sa.Perm (List.range n)) (j : Nat) : (halvesTo n k sa j).length ≤ n := by
  have h := (halves_perm hk hp).length_eq
  rw [List.length_range] at h
  have : (halvesTo n k sa j).length ≤ (halves n k sa).length := by
    unfold halvesTo halves
    simp only [List.length_append, List.length_map]
    have := ((List.take_sublist j sa).filter fun p => decide (k ≤ p)).length_le
    omega
  omega
/-- one doubling -/
theorem doubled {s sa : List Nat} {k many : Nat} {r : Nat → Nat} (hd : Dense s.length many r) (hk : k ≤ s.length) (hp : sa.Perm (List.range s.length)) (hs : sa.Pairwise fun a b => r a ≤ r b) :
    (sortBy many r (halves s.length k sa)).Perm (List.range s.length) ∧ (sortBy many r (halves s.length k sa)).Pairwise (pairLe s k r) := by
  have h1 := halves_perm hk hp
  exact ⟨(sortBy_perm many r _ fun x hx => hd.1 x (by simpa using h1.mem_iff.1 hx)).trans h1, sortBy_pairwise many r _ (halves_sorted hp hs)⟩
theorem sorted_next {s sa : List Nat} {k : Nat} {r nx : Nat → Nat} (hp : sa.Perm (List.range s.length)) (hn : ∀ t, t < s.length → nx (sa.getD t 0) = changes s k r (fun t => sa.getD t 0) t) : sa.Pairwise fun a b => nx a ≤ nx b := by
  have hl : sa.length = s.length := by simpa using hp.length_eq
  rw [List.pairwise_iff_getElem]
  intro t u ht hu htu
  obtain ⟨d, rfl⟩ := Nat.exists_eq_add_of_lt htu
  have e1 := hn t (by omega)
  have e2 := hn (t + d + 1) (by omega)
  rw [List.getD_eq_getElem?_getD, List.getElem?_eq_getElem ht, Option.getD_some] at e1
  rw [List.getD_eq_getElem?_getD, List.getElem?_eq_getElem hu, Option.getD_some] at e2
  rw [e1, e2]
  exact changes_mono s k r _ t (d + 1)
theorem there_is {s D : List Nat} (hm : ∀ x, x ∈ D ↔ x ∈ s) : ∃ r : Nat → Nat, ∀ i, i < s.length → D[r i]? = some (s.getD i 0) := by
  have h : ∀ i, ∃ r, i < s.length → D[r]? = some (s.getD i 0) := fun i => by
    by_cases hi : i < s.length
    · have : s.getD i 0 ∈ D := (hm _).2 (by rw [List.getD_eq_getElem?_getD, List.getElem?_eq_getElem hi]; exact List.getElem_mem hi)
      obtain ⟨r, hr, e⟩ := List.getElem_of_mem this
      exact ⟨r, fun _ => by rw [List.getElem?_eq_getElem hr, e]⟩
    · exact ⟨0, fun h => absurd h hi⟩
  exact ⟨fun i => (h i).choose, fun i hi => (h i).choose_spec hi⟩
/-- the first ranks: where the symbols stand among those there are -/
theorem first_ranks {s D : List Nat} {r : Nat → Nat} (hD : D.Pairwise (· < ·)) (hm : ∀ x, x ∈ D ↔ x ∈ s) (hr : ∀ i, i < s.length → D[r i]? = some (s.getD i 0)) : Ranks s 1 r ∧ Dense s.length D.length r := by
  have hg : ∀ i, i < s.length → s.getD i 0 = s[i]! := fun i hi => by simp [List.getD_eq_getElem?_getD]
  have key : ∀ i j, i < s.length → j < s.length → r i < r j → s.getD i 0 < s.getD j 0 := by
    intro i j hi hj h
    obtain ⟨a1, a2⟩ := List.getElem?_eq_some_iff.1 (hr i hi)
    obtain ⟨b1, b2⟩ := List.getElem?_eq_some_iff.1 (hr j hj)
    rw [← a2, ← b2]
    exact List.pairwise_iff_getElem.1 hD _ _ a1 b1 h
  refine ⟨fun i j hi hj => ?_, fun i hi => (List.getElem?_eq_some_iff.1 (hr i hi)).1, fun v hv => ?_⟩
  · simp only [ltk, and_false, or_false]
    rw [sym_in s i hi, sym_in s j hj]
    constructor
    · intro h; have := key i j hi hj h; omega
    · intro h
      rcases Nat.lt_trichotomy (r i) (r j) with a | a | a
      · exact a
      · have h1 := hr i hi
        rw [a, hr j hj] at h1
        injection h1 with h1
        omega
      · have := key j i hj hi a; omega
  · have : D[v] ∈ s := (hm _).1 (List.getElem_mem hv)
    obtain ⟨i, hi, e⟩ := List.getElem_of_mem this
    refine ⟨i, hi, ?_⟩
    have h1 := hr i hi
    rw [List.getD_eq_getElem?_getD, List.getElem?_eq_getElem hi, Option.getD_some, e] at h1
    obtain ⟨a1, a2⟩ := List.getElem?_eq_some_iff.1 h1
    rcases Nat.lt_trichotomy (r i) v with a | a | a
    · have := List.pairwise_iff_getElem.1 hD _ _ a1 hv a; omega
    · exact a
    · have := List.pairwise_iff_getElem.1 hD _ _ hv a1 a; omega
theorem first_sorted (n many : Nat) (r : Nat → Nat) (hr : ∀ i, i < n → r i < many) : (sortBy many r (List.range n)).Perm (List.range n) ∧ (sortBy many r (List.range n)).Pairwise fun a b => r a ≤ r b :=
  ⟨sortBy_perm many r _ fun x hx => hr x (by simpa using hx), (sortBy_pairwise (R := fun _ _ => True) many r (List.range n) (List.pairwise_of_forall fun _ _ => trivial)).imp fun h => by omega⟩
end Go.Proofs.Ythgnapngjmgkcaa
