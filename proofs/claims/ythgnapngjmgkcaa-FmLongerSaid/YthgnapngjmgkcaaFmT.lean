import Derived.Test.YthgnapngjmgkcaaFmM
/- Plain mathematics of texts and their row. No program. -/
namespace Go.Proofs.Ythgnapngjmgkcaa

def sh (c : UInt8) : Nat := c.toNat + 2
theorem sh_inj {a b : UInt8} (h : sh a = sh b) : a = b := UInt8.toNat_inj.1 (by unfold sh at h; omega)
theorem sh_lt (c : UInt8) : sh c < 258 := by have := c.toNat_lt; unfold sh; omega
/-- the row of texts -/
def rowOf : List (List UInt8) → List Nat
  | [] => [0]
  | t :: l => t.map sh ++ 1 :: rowOf l
/-- where a text begins in the row -/
def stOf : List (List UInt8) → Nat → Nat
  | [], _ => 0
  | _ :: _, 0 => 0
  | t :: l, d + 1 => t.length + 1 + stOf l d
@[simp] theorem stOf_zero (l : List (List UInt8)) : stOf l 0 = 0 := by cases l <;> rfl
theorem stOf_cons (t : List UInt8) (l : List (List UInt8)) (d : Nat) : stOf (t :: l) (d + 1) = t.length + 1 + stOf l d := rfl
theorem stOf_succ (l : List (List UInt8)) (d : Nat) (h : d < l.length) : stOf l (d + 1) = stOf l d + (l.getD d []).length + 1 := by
  induction l generalizing d with
  | nil => simp at h
  | cons t l ih =>
    cases d with
    | zero => simp [stOf_cons]
    | succ d =>
      rw [stOf_cons, stOf_cons, ih d (by simpa using h)]
      simp
      omega
theorem stOf_mono (l : List (List UInt8)) {a b : Nat} (h : a ≤ b) (hb : b ≤ l.length) : stOf l a + (b - a) ≤ stOf l b := by
  induction b with
  | zero => obtain rfl : a = 0 := by omega
            simp
  | succ b ih =>
    rcases Nat.eq_or_lt_of_le h with rfl | h'
    · simp
    · have := ih (by omega) (by omega)
      have := stOf_succ l b (by omega)
      omega
theorem rowOf_length (l : List (List UInt8)) : (rowOf l).length = stOf l l.length + 1 := by
  induction l with
  | nil => rfl
  | cons t l ih => simp [rowOf, stOf_cons, ih]; omega
theorem rowOf_in (l : List (List UInt8)) (d o : Nat) (hd : d < l.length) (ho : o < (l.getD d []).length) : (rowOf l).getD (stOf l d + o) 0 = sh ((l.getD d []).getD o 0) := by
  induction l generalizing d with
  | nil => simp at hd
  | cons t l ih =>
    cases d with
    | zero =>
      simp at ho
      simp [rowOf, List.getD_eq_getElem?_getD, List.getElem?_append, ho]
    | succ d =>
      have := ih d (by simpa using hd) (by simpa using ho)
      rw [stOf_cons, rowOf, List.getD_eq_getElem?_getD, List.getElem?_append_right (by simp; omega), show t.length + 1 + stOf l d + o - (t.map sh).length = (stOf l d + o) + 1 by simp; omega, List.getElem?_cons_succ, ← List.getD_eq_getElem?_getD, this]
      simp
theorem rowOf_closed1 (l : List (List UInt8)) (d : Nat) (hd : d < l.length) : (rowOf l).getD (stOf l d + (l.getD d []).length) 0 = 1 := by
  induction l generalizing d with
  | nil => simp at hd
  | cons t l ih =>
    cases d with
    | zero => simp [rowOf, List.getD_eq_getElem?_getD, List.getElem?_append]
    | succ d =>
      have := ih d (by simpa using hd)
      rw [stOf_cons, rowOf, List.getD_eq_getElem?_getD, List.getElem?_append_right (by simp; omega)]
      have e : t.length + 1 + stOf l d + ((t :: l).getD (d + 1) []).length - (t.map sh).length = (stOf l d + (l.getD d []).length) + 1 := by simp; omega
      rw [e, List.getElem?_cons_succ, ← List.getD_eq_getElem?_getD, this]
theorem rowOf_end (l : List (List UInt8)) : (rowOf l).getD (stOf l l.length) 0 = 0 := by
  induction l with
  | nil => rfl
  | cons t l ih =>
    rw [List.length_cons, stOf_cons, rowOf, List.getD_eq_getElem?_getD, List.getElem?_append_right (by simp; omega), show t.length + 1 + stOf l l.length - (t.map sh).length = stOf l l.length + 1 by simp; omega, List.getElem?_cons_succ, ← List.getD_eq_getElem?_getD, ih]
/-- the text of a place, and where in it -/
def spot : List (List UInt8) → Nat → Nat × Nat
  | [], q => (0, q)
  | t :: l, q => if q ≤ t.length then (0, q) else ((spot l (q - t.length - 1)).1 + 1, (spot l (q - t.length - 1)).2)
theorem spot_of (l : List (List UInt8)) (d o : Nat) (hd : d < l.length) (ho : o ≤ (l.getD d []).length) : spot l (stOf l d + o) = (d, o) := by
  induction l generalizing d with
  | nil => simp at hd
  | cons t l ih =>
    cases d with
    | zero => simp at ho; simp [spot, ho]
    | succ d =>
      have := ih d (by simpa using hd) (by simpa using ho)
      rw [stOf_cons, spot, if_neg (by omega), show t.length + 1 + stOf l d + o - t.length - 1 = stOf l d + o by omega, this]
theorem spot_spec (l : List (List UInt8)) (q : Nat) (h : q < stOf l l.length) : (spot l q).1 < l.length ∧ (spot l q).2 ≤ (l.getD (spot l q).1 []).length ∧ q = stOf l (spot l q).1 + (spot l q).2 := by
  induction l generalizing q with
  | nil => simp [stOf] at h
  | cons t l ih =>
    rw [List.length_cons, stOf_cons] at h
    unfold spot
    split
    · next h1 => exact ⟨by simp, by simpa using h1, by simp⟩
    · next h1 =>
      obtain ⟨a, b, c⟩ := ih (q - t.length - 1) (by omega)
      refine ⟨by simpa using a, by simpa using b, ?_⟩
      simp only [stOf_cons]
      omega
theorem rowOf_lt (l : List (List UInt8)) : ∀ x ∈ rowOf l, x < 258 := by
  induction l with
  | nil => simp [rowOf]
  | cons t l ih =>
    intro x hx
    rw [rowOf, List.mem_append, List.mem_map, List.mem_cons] at hx
    rcases hx with ⟨c, _, rfl⟩ | rfl | hx
    · exact sh_lt c
    · omega
    · exact ih x hx
theorem rowOf_Closed (l : List (List UInt8)) : Closed (rowOf l) := by
  have hl := rowOf_length l
  refine ⟨by omega, fun i hi => ?_⟩
  constructor
  · intro h
    rcases Nat.lt_or_ge i (stOf l l.length) with h1 | h1
    · obtain ⟨a, b, c⟩ := spot_spec l i h1
      rw [c] at h
      rcases Nat.eq_or_lt_of_le b with e | e
      · rw [e, rowOf_closed1 l _ a] at h; omega
      · rw [rowOf_in l _ _ a e] at h; unfold sh at h; omega
    · omega
  · rintro rfl
    rw [hl, Nat.add_sub_cancel]
    exact rowOf_end l
/-- where the closing symbols stand -/
theorem rowOf_one (l : List (List UInt8)) (i : Nat) : (rowOf l).getD i 0 = 1 ↔ ∃ d, d < l.length ∧ i + 1 = stOf l (d + 1) := by
  have hl := rowOf_length l
  constructor
  · intro h
    have hi : i < (rowOf l).length := by
      rcases Nat.lt_or_ge i (rowOf l).length with h' | h'
      · exact h'
      · rw [List.getD_eq_getElem?_getD, List.getElem?_eq_none h'] at h; simp at h
    rcases Nat.lt_or_ge i (stOf l l.length) with h1 | h1
    · obtain ⟨a, b, c⟩ := spot_spec l i h1
      refine ⟨_, a, ?_⟩
      rw [stOf_succ l _ a]
      rcases Nat.eq_or_lt_of_le b with e | e
      · omega
      · rw [c, rowOf_in l _ _ a e] at h; unfold sh at h; omega
    · obtain rfl : i = stOf l l.length := by omega
      rw [rowOf_end] at h; omega
  · rintro ⟨d, hd, e⟩
    rw [stOf_succ l d hd] at e
    rw [show i = stOf l d + (l.getD d []).length by omega]
    exact rowOf_closed1 l d hd

theorem stands_prefix (l : List (List UInt8)) (p : List UInt8) (d o : Nat) (hd : d < l.length) (ho : o ≤ (l.getD d []).length) : Stands (rowOf l) (p.map sh) (stOf l d + o) ↔ p <+: (l.getD d []).drop o := by
  induction p generalizing o with
  | nil => simp [Stands]
  | cons c p ih =>
    rw [List.map_cons]
    show _ = sh c ∧ Stands _ _ (stOf l d + o + 1) ↔ _
    rcases Nat.eq_or_lt_of_le ho with e | e
    · rw [e, rowOf_closed1 l d hd, List.drop_length]
      have : (1 : Nat) ≠ sh c := by unfold sh; omega
      simp [this]
    · rw [rowOf_in l d o hd e, List.drop_eq_getElem_cons e, List.cons_prefix_cons, Nat.add_assoc, ih (o + 1) e, List.getD_eq_getElem?_getD, List.getElem?_eq_getElem e]
      simp only [Option.getD_some]
      constructor
      · rintro ⟨a, b⟩; exact ⟨(sh_inj a).symm, b⟩
      · rintro ⟨a, b⟩; exact ⟨by rw [a], b⟩
theorem stands_last (l : List (List UInt8)) (p : List UInt8) (hp : p ≠ []) : ¬ Stands (rowOf l) (p.map sh) (stOf l l.length) := by
  cases p with
  | nil => exact absurd rfl hp
  | cons c p =>
    rintro ⟨a, _⟩
    rw [rowOf_end] at a
    unfold sh at a; omega

/-- a pattern stands in a text at a place -/
def fits (p t : List UInt8) (o : Nat) : Bool := p.isPrefixOf (t.drop o)
theorem fits_iff (p t : List UInt8) (o : Nat) : fits p t o = true ↔ p <+: t.drop o := by rw [fits, List.isPrefixOf_iff_prefix]
def atsOf (t p : List UInt8) : List Nat := (List.range t.length).filter fun o => fits p t o
/-- the places of a pattern, by texts -/
def hitsOf (l : List (List UInt8)) (p : List UInt8) : List (Nat × Nat) := (List.range l.length).flatMap fun d => (atsOf (l.getD d []) p).map fun o => (d, o)
theorem mem_hitsOf (l : List (List UInt8)) (p : List UInt8) (d o : Nat) : (d, o) ∈ hitsOf l p ↔ d < l.length ∧ o < (l.getD d []).length ∧ p <+: (l.getD d []).drop o := by
  simp only [hitsOf, atsOf, List.mem_flatMap, List.mem_range, List.mem_map, List.mem_filter, fits_iff]
  constructor
  · rintro ⟨a, ha, b, ⟨hb, hf⟩, e⟩
    injection e with e1 e2
    subst e1; subst e2
    exact ⟨ha, hb, hf⟩
  · rintro ⟨ha, hb, hf⟩
    exact ⟨d, ha, o, ⟨hb, hf⟩, rfl⟩
/-- places in order -/
def hitLt (a b : Nat × Nat) : Prop := a.1 < b.1 ∨ a.1 = b.1 ∧ a.2 < b.2
theorem hitsOf_sorted (l : List (List UInt8)) (p : List UInt8) : (hitsOf l p).Pairwise hitLt := by
  rw [hitsOf, List.pairwise_flatMap]
  refine ⟨fun d _ => ?_, ?_⟩
  · rw [List.pairwise_map]
    exact (List.Pairwise.filter _ List.pairwise_lt_range).imp fun h => .inr ⟨rfl, h⟩
  · refine List.pairwise_lt_range.imp fun {a b} hab x hx y hy => ?_
    rw [List.mem_map] at hx hy
    obtain ⟨o, _, rfl⟩ := hx
    obtain ⟨o', _, rfl⟩ := hy
    exact .inl hab
theorem hitsOf_nodup (l : List (List UInt8)) (p : List UInt8) : (hitsOf l p).Nodup :=
  (hitsOf_sorted l p).imp fun h e => by subst e; rcases h with h | h <;> omega
theorem hit_place {l : List (List UInt8)} {p : List UInt8} {d o : Nat} (hp : p ≠ []) (hf : p <+: (l.getD d []).drop o) : o + p.length ≤ (l.getD d []).length := by
  have := hf.length_le
  rw [List.length_drop] at this
  cases p with
  | nil => exact absurd rfl hp
  | cons c p => simp at this ⊢; omega
/-- what stands between fr and to, is what stands in the texts -/
theorem spots_perm {l : List (List UInt8)} {sa : List Nat} {p : List UInt8} {fr to : Nat} (h : IsSA (rowOf l) sa) (hp : p ≠ []) (hi : Ival (rowOf l) sa (p.map sh) fr to) :
    ((List.range (to - fr)).map fun j => spot l (sa.getD (fr + j) 0)).Perm (hitsOf l p) := by
  have hst : ∀ j, j < to - fr → ∃ d o, d < l.length ∧ o < (l.getD d []).length ∧ sa.getD (fr + j) 0 = stOf l d + o ∧ p <+: (l.getD d []).drop o := by
    intro j hj
    have hb : fr + j < (rowOf l).length := by have := hi.2.1; omega
    have hq := sa_lt h hb
    have hs := (hi.2.2 _ hq).1 ⟨by rw [rk_sa h hb]; omega, by rw [rk_sa h hb]; omega⟩
    have hlen := rowOf_length l
    rcases Nat.lt_or_ge (sa.getD (fr + j) 0) (stOf l l.length) with h1 | h1
    · obtain ⟨a, b, c⟩ := spot_spec l _ h1
      rw [c, stands_prefix l p _ _ a b] at hs
      have := hit_place hp hs
      have : 0 < p.length := List.length_pos_iff.2 hp
      exact ⟨_, _, a, by omega, c, hs⟩
    · rw [show sa.getD (fr + j) 0 = stOf l l.length by omega] at hs
      exact absurd hs (stands_last l p hp)
  refine (List.perm_ext_iff_of_nodup ?_ (hitsOf_nodup l p)).2 ?_
  · rw [List.Nodup, List.pairwise_map]
    refine (List.Pairwise.and_mem.1 List.pairwise_lt_range).imp fun {a b} hab e => ?_
    obtain ⟨ha, hb, hlt⟩ := hab
    rw [List.mem_range] at ha hb
    obtain ⟨d, o, h1, h2, h3, _⟩ := hst a ha
    obtain ⟨d', o', h1', h2', h3', _⟩ := hst b hb
    rw [h3, h3', spot_of l d o h1 (by omega), spot_of l d' o' h1' (by omega)] at e
    injection e with e1 e2
    subst e1; subst e2
    have h4 : sa.getD (fr + a) 0 = sa.getD (fr + b) 0 := h3.trans h3'.symm
    have hto := hi.2.1
    have := rk_sa h (show fr + a < (rowOf l).length by omega)
    rw [h4, rk_sa h (by omega)] at this
    omega
  · rintro ⟨d, o⟩
    rw [List.mem_map, mem_hitsOf]
    constructor
    · rintro ⟨j, hj, e⟩
      rw [List.mem_range] at hj
      obtain ⟨d', o', h1, h2, h3, h4⟩ := hst j hj
      rw [h3, spot_of l d' o' h1 (by omega)] at e
      injection e with e1 e2
      subst e1; subst e2
      exact ⟨h1, h2, h4⟩
    · rintro ⟨h1, h2, h3⟩
      have hq : stOf l d + o < (rowOf l).length := by
        have := stOf_succ l d h1
        have := stOf_mono l (show d + 1 ≤ l.length by omega) (Nat.le_refl _)
        have := rowOf_length l
        omega
      have hs := (hi.2.2 _ hq).2 ((stands_prefix l p d o h1 (by omega)).2 h3)
      refine ⟨rk sa (stOf l d + o) - fr, by rw [List.mem_range]; omega, ?_⟩
      rw [show fr + (rk sa (stOf l d + o) - fr) = rk sa (stOf l d + o) by omega, sa_rk h hq, spot_of l d o h1 (by omega)]
end Go.Proofs.Ythgnapngjmgkcaa
