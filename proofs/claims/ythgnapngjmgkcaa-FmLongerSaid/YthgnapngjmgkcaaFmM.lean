import Derived.Test.YthgnapngjmgkcaaSfxM
/- Plain mathematics of an index: where endings stand that begin with a pattern. No program. -/
namespace Go.Proofs.Ythgnapngjmgkcaa

theorem slt_step (s : List Nat) (i j : Nat) : slt s i j ↔ sym s i < sym s j ∨ sym s i = sym s j ∧ slt s (i + 1) (j + 1) := by
  constructor
  · rintro ⟨k, h⟩
    cases k with
    | zero => exact h.elim
    | succ k => exact h.imp id fun h => ⟨h.1, k, h.2⟩
  · rintro (h | ⟨e, k, h⟩)
    · exact ⟨1, .inl h⟩
    · exact ⟨k + 1, .inr ⟨e, h⟩⟩
theorem slt_asymm {s : List Nat} {i j : Nat} (h : slt s i j) : ¬ slt s j i := by
  rintro ⟨b, hb⟩
  obtain ⟨a, ha⟩ := h
  have h1 := ltk_up b ha
  have h2 := ltk_up a hb
  rw [Nat.add_comm] at h2
  exact ltk_asymm h1 h2

/-- the place in the order at which an ending stands -/
def rk (sa : List Nat) (q : Nat) : Nat := sa.idxOf q
theorem sa_len {s sa : List Nat} (h : IsSA s sa) : sa.length = s.length := by simpa using h.1.length_eq
theorem sa_nodup {s sa : List Nat} (h : IsSA s sa) : sa.Nodup := h.1.nodup_iff.2 List.nodup_range
theorem sa_mem {s sa : List Nat} (h : IsSA s sa) (q : Nat) : q ∈ sa ↔ q < s.length := by rw [h.1.mem_iff, List.mem_range]
theorem rk_lt {s sa : List Nat} (h : IsSA s sa) {q : Nat} (hq : q < s.length) : rk sa q < s.length := by
  rw [← sa_len h]; exact List.idxOf_lt_length_of_mem ((sa_mem h q).2 hq)
theorem sa_rk {s sa : List Nat} (h : IsSA s sa) {q : Nat} (hq : q < s.length) : sa.getD (rk sa q) 0 = q := by
  have hl : sa.idxOf q < sa.length := List.idxOf_lt_length_of_mem ((sa_mem h q).2 hq)
  rw [rk, List.getD_eq_getElem?_getD, List.getElem?_eq_getElem hl]
  exact List.getElem_idxOf hl
theorem sa_lt {s sa : List Nat} (h : IsSA s sa) {j : Nat} (hj : j < s.length) : sa.getD j 0 < s.length := (placed_of h.1).1 j hj
theorem rk_sa {s sa : List Nat} (h : IsSA s sa) {j : Nat} (hj : j < s.length) : rk sa (sa.getD j 0) = j := by
  have hl : j < sa.length := by rw [sa_len h]; exact hj
  rw [rk, List.getD_eq_getElem?_getD, List.getElem?_eq_getElem hl]
  exact (sa_nodup h).idxOf_getElem j hl
theorem sa_lt_of {s sa : List Nat} (h : IsSA s sa) {a b : Nat} (hab : a < b) (hb : b < s.length) : slt s (sa.getD a 0) (sa.getD b 0) := pairwise_getD h.2 a b hab (by rw [sa_len h]; exact hb)
theorem rk_lt_iff {s sa : List Nat} (h : IsSA s sa) {p q : Nat} (hp : p < s.length) (hq : q < s.length) : rk sa p < rk sa q ↔ slt s p q := by
  constructor
  · intro hlt
    have := sa_lt_of h hlt (rk_lt h hq)
    rwa [sa_rk h hp, sa_rk h hq] at this
  · intro hs
    rcases Nat.lt_trichotomy (rk sa p) (rk sa q) with h1 | h1 | h1
    · exact h1
    · have e : p = q := by rw [← sa_rk h hp, ← sa_rk h hq, h1]
      subst e
      exact absurd hs (slt_asymm hs)
    · have := sa_lt_of h h1 (rk_lt h hp)
      rw [sa_rk h hp, sa_rk h hq] at this
      exact absurd this (slt_asymm hs)
theorem rk_inj {s sa : List Nat} (h : IsSA s sa) {p q : Nat} (hp : p < s.length) (hq : q < s.length) (e : rk sa p = rk sa q) : p = q := by rw [← sa_rk h hp, ← sa_rk h hq, e]

/-- a closed row: its only 0 is its last symbol -/
def Closed (s : List Nat) : Prop := 0 < s.length ∧ ∀ i, i < s.length → (s.getD i 0 = 0 ↔ i = s.length - 1)

theorem cnt_down {f : Nat → Bool} {n : Nat} (h : ∀ j, j + 1 < n → f (j + 1) = true → f j = true) : ∀ j, j < n → (f j = true ↔ j < cnt f n) := by
  induction n with
  | zero => intro j hj; omega
  | succ n ih =>
    have ih := ih fun j hj => h j (by omega)
    intro j hj
    show f j = true ↔ j < cnt f n + if f n then 1 else 0
    have hle := cnt_le f n
    by_cases hn : f n = true
    · have hall : ∀ d, d ≤ n → f (n - d) = true := by
        intro d
        induction d with
        | zero => intro _; exact hn
        | succ d ihd => intro hd; exact h (n - (d + 1)) (by omega) (by rw [show n - (d + 1) + 1 = n - d by omega]; exact ihd (by omega))
      have hc : cnt f n = n := by
        rcases Nat.eq_zero_or_pos n with rfl | hp
        · rfl
        · have := (ih (n - 1) (by omega)).1 (hall 1 (by omega)); omega
      rw [if_pos hn, hc]
      exact ⟨fun _ => by omega, fun _ => by rw [show j = n - (n - j) by omega]; exact hall _ (by omega)⟩
    · rw [if_neg hn, Nat.add_zero]
      by_cases e : j = n
      · subst e
        exact ⟨fun h' => absurd h' hn, fun h' => by omega⟩
      · exact ih j (by omega)
theorem cnt_or {a b : Nat → Bool} {n : Nat} (h : ∀ j, j < n → ¬ (a j = true ∧ b j = true)) : cnt (fun j => a j || b j) n = cnt a n + cnt b n := by
  induction n with
  | zero => rfl
  | succ n ih =>
    have ih := ih fun j hj => h j (by omega)
    have := h n (by omega)
    show cnt (fun j => a j || b j) n + (if (a n || b n) = true then 1 else 0) = (cnt a n + if a n = true then 1 else 0) + (cnt b n + if b n = true then 1 else 0)
    rw [ih]
    by_cases ha : a n = true <;> by_cases hb : b n = true
    · exact absurd ⟨ha, hb⟩ this
    · rw [if_pos (by simp [ha]), if_pos ha, if_neg hb]; omega
    · rw [if_pos (by simp [hb]), if_neg ha, if_pos hb]; omega
    · rw [if_neg (by simp [ha, hb]), if_neg ha, if_neg hb]; omega
theorem cnt_one (q n : Nat) (h : q < n) : cnt (fun j => j == q) n = 1 := by
  induction n with
  | zero => omega
  | succ n ih =>
    simp only [cnt]
    by_cases e : q = n
    · subst e
      rw [cnt_false q (fun j hj => by simp; omega)]
      simp
    · rw [ih (by omega)]
      have : (n == q) = false := by simpa using fun h => e h.symm
      simp [this]
theorem cnt_perm {f : Nat → Bool} {l : List Nat} {n : Nat} (h : l.Perm (List.range n)) : cnt (fun j => f (l.getD j 0)) n = cnt f n := by
  have hl : l.length = n := by simpa using h.length_eq
  rw [← filter_cnt f l n h, ← filter_cnt _ (List.range n) n (List.Perm.refl _)]
  conv => rhs; rw [← tabOf_getD n l hl, tabOf, List.filter_map, List.length_map]
  rfl

/-- how many symbols are less -/
def lessN (s : List Nat) (c : Nat) : Nat := cnt (fun q => decide (s.getD q 0 < c)) s.length
/-- the symbol ahead of each ending -/
def preSym (s : List Nat) (p : Nat) : Nat := s.getD ((p + s.length - 1) % s.length) 0
def turnedOf (s sa : List Nat) : List Nat := sa.map (preSym s)
theorem turnedOf_length {s sa : List Nat} (h : IsSA s sa) : (turnedOf s sa).length = s.length := by rw [turnedOf, List.length_map, sa_len h]
theorem turnedOf_get {s sa : List Nat} (h : IsSA s sa) {j : Nat} (hj : j < s.length) : (turnedOf s sa).getD j 0 = preSym s (sa.getD j 0) := by
  have hl : j < sa.length := by rw [sa_len h]; exact hj
  simp [turnedOf, List.getD_eq_getElem?_getD, List.getElem?_eq_getElem hl]
theorem preSym_succ {s : List Nat} {p : Nat} (h : p + 1 < s.length) : preSym s (p + 1) = s.getD p 0 := by
  rw [preSym, show p + 1 + s.length - 1 = p + s.length by omega, Nat.add_mod_right, Nat.mod_eq_of_lt (by omega)]
theorem preSym_zero {s : List Nat} (h : Closed s) : preSym s 0 = 0 := by
  obtain ⟨h0, h1⟩ := h
  rw [preSym, Nat.zero_add, Nat.mod_eq_of_lt (by omega)]
  exact (h1 _ (by omega)).2 rfl
/-- where the endings go, of which so many stand ahead, as they are begun by one symbol more -/
def goes (s sa : List Nat) (c i : Nat) : Nat := lessN s c + ((turnedOf s sa).take i).count c

theorem rank_cnt {s sa : List Nat} (h : IsSA s sa) (hc : Closed s) {c : Nat} (h0 : c ≠ 0) : ∀ i, i ≤ s.length →
    ((turnedOf s sa).take i).count c = cnt (fun q => s.getD q 0 == c && decide (rk sa (q + 1) < i)) s.length := by
  intro i
  induction i with
  | zero => intro _; rw [cnt_false _ (fun j _ => by simp)]; rfl
  | succ i ih =>
    intro hi
    have ih := ih (by omega)
    have hl : i < (turnedOf s sa).length := by rw [turnedOf_length h]; omega
    have hg : (turnedOf s sa)[i] = preSym s (sa.getD i 0) := by
      rw [← turnedOf_get h (by omega : i < s.length), List.getD_eq_getElem?_getD, List.getElem?_eq_getElem hl]; rfl
    rw [List.take_succ_eq_append_getElem hl, List.count_append, ih, hg]
    have hsp : cnt (fun q => s.getD q 0 == c && decide (rk sa (q + 1) < i + 1)) s.length =
        cnt (fun q => s.getD q 0 == c && decide (rk sa (q + 1) < i)) s.length + cnt (fun q => s.getD q 0 == c && decide (rk sa (q + 1) = i)) s.length := by
      rw [← cnt_or]
      · refine cnt_congr _ fun j _ => ?_
        rw [← Bool.and_or_distrib_left]
        congr 1
        rw [Bool.eq_iff_iff]; simp; omega
      · intro j _; simp; omega
    rw [hsp]
    congr 1
    have hp := sa_lt h (show i < s.length by omega)
    have hr := rk_sa h (show i < s.length by omega)
    generalize sa.getD i 0 = p at hp hr
    have hq1 : ∀ q, q < s.length → s.getD q 0 = c → q + 1 < s.length := fun q hq e => by
      rcases Nat.lt_or_ge (q + 1) s.length with h' | h'
      · exact h'
      · have := (hc.2 q hq).2 (by omega); omega
    cases p with
    | zero =>
      rw [preSym_zero hc]
      rw [cnt_false]
      · simp [Ne.symm h0]
      · intro q hq
        by_cases e : s.getD q 0 = c
        · have := hq1 q hq e
          have hne : rk sa (q + 1) ≠ i := fun e' => by
            have := rk_inj h this hp (e'.trans hr.symm); omega
          rw [decide_eq_false hne, Bool.and_false]
        · rw [beq_eq_false_iff_ne.2 e, Bool.false_and]
    | succ p =>
      rw [preSym_succ hp]
      by_cases e : s.getD p 0 = c
      · rw [show cnt (fun q => s.getD q 0 == c && decide (rk sa (q + 1) = i)) s.length = cnt (fun q => q == p) s.length from cnt_congr _ fun q hq => by
          rw [Bool.eq_iff_iff]
          simp only [Bool.and_eq_true, beq_iff_eq, decide_eq_true_eq]
          constructor
          · rintro ⟨e1, e2⟩
            have := rk_inj h (hq1 q hq e1) hp (e2.trans hr.symm); omega
          · rintro rfl; exact ⟨e, hr⟩]
        rw [cnt_one p _ (by omega), e]
        simp
      · rw [cnt_false]
        · have e2 : (s.getD p 0 == c) = false := beq_eq_false_iff_ne.2 e
          rw [List.count_singleton, e2]; rfl
        · intro q hq
          by_cases e' : s.getD q 0 = c
          · have h1 := hq1 q hq e'
            have hne : rk sa (q + 1) ≠ i := fun e'' => by
              have := rk_inj h h1 hp (e''.trans hr.symm)
              obtain rfl : q = p := by omega
              exact e e'
            rw [decide_eq_false hne, Bool.and_false]
          · rw [beq_eq_false_iff_ne.2 e', Bool.false_and]
/-- what stands ahead of a place of the order, with one symbol more -/
theorem goes_iff {s sa : List Nat} (h : IsSA s sa) (hc : Closed s) {c i q : Nat} (h0 : c ≠ 0) (hi : i ≤ s.length) (hq : q < s.length) :
    rk sa q < goes s sa c i ↔ s.getD q 0 < c ∨ s.getD q 0 = c ∧ rk sa (q + 1) < i := by
  have hg : goes s sa c i = cnt (fun q => decide (s.getD q 0 < c) || (s.getD q 0 == c && decide (rk sa (q + 1) < i))) s.length := by
    rw [goes, lessN, rank_cnt h hc h0 i hi, cnt_or]
    intro j _; simp; omega
  rw [hg, ← cnt_perm h.1]
  have hd := cnt_down (f := fun j => decide (s.getD (sa.getD j 0) 0 < c) || (s.getD (sa.getD j 0) 0 == c && decide (rk sa (sa.getD j 0 + 1) < i))) (n := s.length) (fun j hj hf => by
    have hlt := sa_lt_of h (show j < j + 1 by omega) hj
    have p1 := sa_lt h (show j < s.length by omega)
    have p2 := sa_lt h hj
    generalize sa.getD j 0 = x at *
    generalize sa.getD (j + 1) 0 = y at *
    rw [slt_step, sym_in s x p1, sym_in s y p2] at hlt
    simp only [Bool.or_eq_true, decide_eq_true_eq, Bool.and_eq_true, beq_iff_eq] at hf ⊢
    rcases hlt with h1 | ⟨h1, h2⟩
    · exact .inl (by omega)
    · rcases hf with h3 | ⟨h3, h4⟩
      · exact .inl (by omega)
      · refine .inr ⟨by omega, ?_⟩
        have a1 : x + 1 < s.length := by
          rcases Nat.lt_or_ge (x + 1) s.length with h' | h'
          · exact h'
          · have := (hc.2 x p1).2 (by omega); omega
        have a2 : y + 1 < s.length := by
          rcases Nat.lt_or_ge (y + 1) s.length with h' | h'
          · exact h'
          · have := (hc.2 y p2).2 (by omega); omega
        have := (rk_lt_iff h a1 a2).2 h2
        omega) (rk sa q) (rk_lt h hq)
  rw [← hd, sa_rk h hq]
  simp
theorem goes_le {s sa : List Nat} (h : IsSA s sa) (hc : Closed s) {c i : Nat} (h0 : c ≠ 0) (hi : i ≤ s.length) : goes s sa c i ≤ s.length := by
  rw [goes, lessN, rank_cnt h hc h0 i hi, ← cnt_or]
  · exact cnt_le _ _
  · intro j _; simp; omega

/-- a row stands at a place -/
def Stands (s : List Nat) : List Nat → Nat → Prop
  | [], _ => True
  | c :: p, q => s.getD q 0 = c ∧ Stands s p (q + 1)
/-- the endings that begin with a row are those from fr to to -/
def Ival (s sa p : List Nat) (fr to : Nat) : Prop := fr ≤ s.length ∧ to ≤ s.length ∧ ∀ q, q < s.length → (fr ≤ rk sa q ∧ rk sa q < to ↔ Stands s p q)
theorem Ival.start {s sa : List Nat} (h : IsSA s sa) : Ival s sa [] 0 s.length := ⟨Nat.zero_le _, Nat.le_refl _, fun q hq => ⟨fun _ => trivial, fun _ => ⟨Nat.zero_le _, rk_lt h hq⟩⟩⟩
theorem Ival.step {s sa p : List Nat} {fr to c : Nat} (hi : Ival s sa p fr to) (h : IsSA s sa) (hc : Closed s) (h0 : c ≠ 0) : Ival s sa (c :: p) (goes s sa c fr) (goes s sa c to) := by
  refine ⟨goes_le h hc h0 hi.1, goes_le h hc h0 hi.2.1, fun q hq => ?_⟩
  have h1 := goes_iff h hc h0 hi.1 hq
  have h2 := goes_iff h hc h0 hi.2.1 hq
  show _ ↔ s.getD q 0 = c ∧ Stands s p (q + 1)
  by_cases e : s.getD q 0 = c
  · have hq1 : q + 1 < s.length := by
      rcases Nat.lt_or_ge (q + 1) s.length with h' | h'
      · exact h'
      · have := (hc.2 q hq).2 (by omega); omega
    have h3 := hi.2.2 (q + 1) hq1
    rw [← h3, and_iff_right e, h2, ← Nat.not_lt, h1]
    omega
  · simp only [e, false_and, or_false] at h1 h2 ⊢
    rw [h2, ← Nat.not_lt, h1]
    exact ⟨fun h => h.1 h.2, fun h => h.elim⟩
/-- nothing stands, so nothing longer does -/
theorem Ival.none {s sa p p' : List Nat} {fr to : Nat} (hi : Ival s sa p fr to) (hc : Closed s) (hp : ∀ x ∈ p', x ≠ 0) (hle : to ≤ fr) (hne : p ≠ []) : Ival s sa (p' ++ p) 0 0 := by
  have hno : ∀ q, q < s.length → ¬ Stands s p q := fun q hq hs => by have := (hi.2.2 q hq).2 hs; omega
  refine ⟨Nat.zero_le _, Nat.zero_le _, ?_⟩
  intro q hq
  refine ⟨fun h => by omega, fun h => ?_⟩
  induction p' generalizing q with
  | nil => exact absurd h (hno q hq)
  | cons c p' ih =>
    have hq1 : q + 1 < s.length := by
      rcases Nat.lt_or_ge (q + 1) s.length with h' | h'
      · exact h'
      · have h2 := (hc.2 q hq).2 (by omega)
        exact absurd (h.1.symm.trans h2) (hp c List.mem_cons_self)
    exact absurd (ih (fun x hx => hp x (List.mem_cons_of_mem _ hx)) (q + 1) hq1 h.2).2 (Nat.not_lt_zero _)
/-- one place ahead -/
theorem ahead_rk {s sa : List Nat} (h : IsSA s sa) (hc : Closed s) {q : Nat} (hq : q + 1 < s.length) :
    (turnedOf s sa).getD (rk sa (q + 1)) 0 = s.getD q 0 ∧ s.getD q 0 ≠ 0 ∧ goes s sa (s.getD q 0) (rk sa (q + 1)) = rk sa q := by
  have hr := rk_lt h hq
  have e1 : (turnedOf s sa).getD (rk sa (q + 1)) 0 = s.getD q 0 := by rw [turnedOf_get h hr, sa_rk h hq, preSym_succ hq]
  have h0 : s.getD q 0 ≠ 0 := fun e => by have := (hc.2 q (by omega)).1 e; omega
  refine ⟨e1, h0, ?_⟩
  have a := goes_iff h hc h0 (Nat.le_of_lt hr) (show q < s.length by omega)
  have b := goes_iff h hc h0 hr (show q < s.length by omega)
  have hl : rk sa (q + 1) < (turnedOf s sa).length := by rw [turnedOf_length h]; exact hr
  have hs : goes s sa (s.getD q 0) (rk sa (q + 1) + 1) = goes s sa (s.getD q 0) (rk sa (q + 1)) + 1 := by
    rw [goes, goes, List.take_succ_eq_append_getElem hl, List.count_append]
    have : (turnedOf s sa)[rk sa (q + 1)] = s.getD q 0 := by rw [← e1, List.getD_eq_getElem?_getD, List.getElem?_eq_getElem hl]; rfl
    rw [this]; simp; omega
  rw [hs] at b
  have a' : ¬ rk sa q < goes s sa (s.getD q 0) (rk sa (q + 1)) := fun h' => by rcases a.1 h' with x | x <;> omega
  have b' := b.2 (.inr ⟨rfl, Nat.lt_succ_self _⟩)
  omega
/-- the last ending is the first in order -/
theorem rk_last {s sa : List Nat} (h : IsSA s sa) (hc : Closed s) : rk sa (s.length - 1) = 0 := by
  have h0 := hc.1
  rcases Nat.eq_zero_or_pos (rk sa (s.length - 1)) with e | e
  · exact e
  · have hp := sa_lt h h0
    have hlt := sa_lt_of h e (rk_lt h (show s.length - 1 < s.length by omega))
    rw [sa_rk h (by omega), slt_step, sym_in s _ hp, sym_in s _ (by omega), (hc.2 (s.length - 1) (by omega)).2 rfl] at hlt
    rcases hlt with h1 | ⟨h1, h2⟩
    · omega
    · have := (hc.2 _ hp).1 (by omega)
      rw [this] at h2
      exact absurd h2 (slt_asymm h2)
end Go.Proofs.Ythgnapngjmgkcaa
