import Derived.Test.YthgnapngjmgkcaaBits3
import Derived.Test.YthgnapngjmgkcaaWave1
/- Package wavelet: Build. -/
namespace Go.Proofs.Ythgnapngjmgkcaa
open Go.RowKit

theorem Try.info_bool : (Try.prog.info? 4).map (fun i => (i.zero, i.size, i.bytes)) = some (some (.bool false), 1, 1) := by kernel_rfl
theorem Try.info_level : (Try.prog.info? 83).map (fun i => (i.zero, i.size, i.bytes)) = some (some (.agg #[.pointer none, .int .i64 0]), 2, 16) := by kernel_rfl

/-- two rows that the call owns lie apart -/
def Sep (a b : Value) : Prop := ∀ g, a.ownBlock = some g → b.ownBlock ≠ some g
theorem Sep.symm {a b : Value} (h : Sep a b) : Sep b a := fun g h1 h2 => h g h2 h1
/-- a row has grown: in its own block, or in one that is new -/
theorem Sep.grown {W : World} {a b a' : Value} {g cap n : Nat} (h : Sep a b) (hat : a.ownBlock = some g ∨ g = W.heap.size) (hb : ∀ i, b.ownBlock = some i → i < W.heap.size) (e : a' = .slice (some ⟨g, 0, none⟩) n cap) : Sep a' b := by
  subst e
  intro i hi
  obtain rfl : g = i := by simpa [Value.ownBlock] using hi
  intro hb'
  rcases hat with h1 | h1
  · exact h _ h1 hb'
  · have := hb _ hb'; omega

/-- the symbols gone through, parted: bp holds the parts, va their digits -/
def Parting (W : World) (base bp : Nat) (va v0 v1 : Value) (A : List Bool) (X Y : List Nat) : Prop :=
  W.heap[bp]? = some (.cells #[v0, v1] 92 (0, 0)) ∧ W.ownsRow base 4 1 va A.length (bools A) ∧
    W.ownsRow base 3 1 v0 X.length (nats X) ∧ W.ownsRow base 3 1 v1 Y.length (nats Y) ∧
    Sep va v0 ∧ Sep va v1 ∧ Sep v0 v1 ∧ bp < base ∧ base ≤ W.heap.size

theorem own_row_below {W W' : World} {base n size : Nat} {e : TypeId} {v : Value} {xs : List Value} (ho : W.ownsRow base e size v n xs) (h : Below W.heap.size W W') : W'.ownsRow base e size v n xs :=
  (Keeps.of_below h (fun _ => False)).own ho fun _ _ hf => hf
theorem own_row_grown {W W' : World} {base n size : Nat} {e : TypeId} {v u : Value} {xs : List Value} (ho : W.ownsRow base e size v n xs) (h : W.grownBy W' u.ownBlock) (hs : Sep u v) : W'.ownsRow base e size v n xs :=
  (Keeps.of_grownBy (S := fun i => some i = u.ownBlock) h fun _ e => e.symm).own ho fun b hb e => hs b e.symm hb
theorem own_lt {W : World} {base n size : Nat} {e : TypeId} {v : Value} {xs : List Value} (ho : W.ownsRow base e size v n xs) : ∀ i, v.ownBlock = some i → i < W.heap.size := fun i hi => (ho.lt i hi).2
theorem own_far {W : World} {base n size b : Nat} {e : TypeId} {v : Value} {xs : List Value} (ho : W.ownsRow base e size v n xs) (h : b < base) : v.ownBlock ≠ some b := fun hi => by have := (ho.lt b hi).1; omega

theorem Parting.below {W W' : World} {base bp : Nat} {va v0 v1 : Value} {A : List Bool} {X Y : List Nat} (h : Parting W base bp va v0 v1 A X Y) (hb : Below W.heap.size W W') : Parting W' base bp va v0 v1 A X Y := by
  obtain ⟨h1, h2, h3, h4, s1, s2, s3, b1, b2⟩ := h
  exact ⟨(hb.block bp (by omega)).trans h1, own_row_below h2 hb, own_row_below h3 hb, own_row_below h4 hb, s1, s2, s3, b1, Nat.le_trans b2 hb.size⟩
theorem Parting.digit {W W1 : World} {base bp g cap m : Nat} {va va' v0 v1 : Value} {A A' : List Bool} {X Y : List Nat} (h : Parting W base bp va v0 v1 A X Y) (hg : W.grownBy W1 va.ownBlock)
    (ho : W1.ownsRow base 4 1 va' A'.length (bools A')) (hat : va.ownBlock = some g ∨ g = W.heap.size) (e : va' = .slice (some ⟨g, 0, none⟩) m cap) : Parting W1 base bp va' v0 v1 A' X Y := by
  obtain ⟨h1, h2, h3, h4, s1, s2, s3, b1, b2⟩ := h
  exact ⟨(hg.block bp (by omega) (fun e => own_far h2 b1 e.symm)).trans h1, ho, own_row_grown h3 hg s1, own_row_grown h4 hg s2, s1.grown hat (own_lt h3) e, s2.grown hat (own_lt h4) e, s3, b1, Nat.le_trans b2 hg.size⟩
theorem own_set {W : World} {base n size b o : Nat} {e : TypeId} {v u : Value} {xs : List Value} (ho : W.ownsRow base e size v n xs) (h : b < base) : (W.setCell ⟨b, o, none⟩ u).ownsRow base e size v n xs := ownsRow_setCell_below ho h u
theorem Parting.zero {W W1 : World} {base bp g cap m : Nat} {va v0 v0' v1 : Value} {A : List Bool} {X X' Y : List Nat} (h : Parting W base bp va v0 v1 A X Y) (hg : W.grownBy W1 v0.ownBlock)
    (ho : W1.ownsRow base 3 1 v0' X'.length (nats X')) (hat : v0.ownBlock = some g ∨ g = W.heap.size) (e : v0' = .slice (some ⟨g, 0, none⟩) m cap) : Parting (W1.setCell ⟨bp, 0, none⟩ v0') base bp va v0' v1 A X' Y := by
  obtain ⟨h1, h2, h3, h4, s1, s2, s3, b1, b2⟩ := h
  have k1 := (hg.block bp (by omega) (fun e => own_far h3 b1 e.symm)).trans h1
  refine ⟨?_, own_set (own_row_grown h2 hg s1.symm) b1, own_set ho b1, own_set (own_row_grown h4 hg s3) b1, (s1.symm.grown hat (own_lt h2) e).symm, s2, s3.grown hat (own_lt h4) e, b1, by have := hg.size; simp; omega⟩
  simp [World.setCell, Array.getElem?_modify, k1]
theorem Parting.one {W W1 : World} {base bp g cap m : Nat} {va v0 v1 v1' : Value} {A : List Bool} {X Y Y' : List Nat} (h : Parting W base bp va v0 v1 A X Y) (hg : W.grownBy W1 v1.ownBlock)
    (ho : W1.ownsRow base 3 1 v1' Y'.length (nats Y')) (hat : v1.ownBlock = some g ∨ g = W.heap.size) (e : v1' = .slice (some ⟨g, 0, none⟩) m cap) : Parting (W1.setCell ⟨bp, 1, none⟩ v1') base bp va v0 v1' A X Y' := by
  obtain ⟨h1, h2, h3, h4, s1, s2, s3, b1, b2⟩ := h
  have k1 := (hg.block bp (by omega) (fun e => own_far h4 b1 e.symm)).trans h1
  refine ⟨?_, own_set (own_row_grown h2 hg s2.symm) b1, own_set (own_row_grown h3 hg s3.symm) b1, own_set ho b1, s1, (s2.symm.grown hat (own_lt h2) e).symm, (s3.symm.grown hat (own_lt h3) e).symm, b1, by have := hg.size; simp; omega⟩
  simp [World.setCell, Array.getElem?_modify, k1]
theorem Parting.cells {W : World} {base bp : Nat} {va v0 v1 : Value} {A : List Bool} {X Y : List Nat} (h : Parting W base bp va v0 v1 A X Y) : W.cell? ⟨bp, 0, none⟩ = some v0 ∧ W.cell? ⟨bp, 1, none⟩ = some v1 ∧ ∀ i, W.frozen? ⟨bp, i, none⟩ = false := by
  obtain ⟨h1, _⟩ := h
  exact ⟨(cell_heap h1).trans rfl, (cell_heap h1).trans rfl, fun i => by simp [World.frozen?, h1]⟩

theorem Parting.kept0 {W W1 : World} {base bp : Nat} {va v0 v1 : Value} {A : List Bool} {X Y : List Nat} (h : Parting W base bp va v0 v1 A X Y) (hg : W.grownBy W1 v0.ownBlock) : W1.cell? ⟨bp, 0, none⟩ = some v0 ∧ W1.frozen? ⟨bp, 0, none⟩ = false := by
  obtain ⟨h1, h2, h3, h4, s1, s2, s3, b1, b2⟩ := h
  have k1 := (hg.block bp (by omega) (fun e => own_far h3 b1 e.symm)).trans h1
  exact ⟨(cell_heap k1).trans rfl, by simp [World.frozen?, k1]⟩
theorem Parting.kept1 {W W1 : World} {base bp : Nat} {va v0 v1 : Value} {A : List Bool} {X Y : List Nat} (h : Parting W base bp va v0 v1 A X Y) (hg : W.grownBy W1 v1.ownBlock) : W1.cell? ⟨bp, 1, none⟩ = some v1 ∧ W1.frozen? ⟨bp, 1, none⟩ = false := by
  obtain ⟨h1, h2, h3, h4, s1, s2, s3, b1, b2⟩ := h
  have k1 := (hg.block bp (by omega) (fun e => own_far h4 b1 e.symm)).trans h1
  exact ⟨(cell_heap k1).trans rfl, by simp [World.frozen?, k1]⟩

def levelCells (wd : Nat) (s : List Nat) (bv : Nat → Nat) : Nat → List Value
  | 0 => []
  | k + 1 => levelCells wd s bv k ++ [.pointer (some ⟨bv k, 0, none⟩), .int .i64 (lvZeros wd s k)]
@[simp] theorem levelCells_length (wd : Nat) (s : List Nat) (bv : Nat → Nat) (k : Nat) : (levelCells wd s bv k).length = k * 2 := by
  induction k with
  | zero => rfl
  | succ k ih => simp [levelCells, ih]; omega
theorem levelCells_congr {wd : Nat} {s : List Nat} {bv bv' : Nat → Nat} {k : Nat} (h : ∀ j, j < k → bv j = bv' j) : levelCells wd s bv k = levelCells wd s bv' k := by
  induction k with
  | zero => rfl
  | succ k ih => rw [levelCells, levelCells, ih fun j hj => h j (by omega), h k (by omega)]
theorem levelCells_get (wd : Nat) (s : List Nat) (bv : Nat → Nat) (k j : Nat) (h : j < k) : (levelCells wd s bv k)[j * 2]? = some (.pointer (some ⟨bv j, 0, none⟩)) ∧ (levelCells wd s bv k)[j * 2 + 1]? = some (.int .i64 (lvZeros wd s j)) := by
  induction k with
  | zero => omega
  | succ k ih =>
    rw [levelCells]
    rcases Nat.lt_succ_iff_lt_or_eq.1 h with h1 | rfl
    · rw [List.getElem?_append_left (by simp; omega), List.getElem?_append_left (by simp; omega)]
      exact ih h1
    · rw [List.getElem?_append_right (by simp), List.getElem?_append_right (by simp)]
      simp

/-- the Tree so far: k levels, each Vector held -/
def Levels (W : World) (lo0 bt wd : Nat) (s : List Nat) (vl : Value) (bv : Nat → Nat) (k : Nat) : Prop :=
  W.heap[bt]? = some (.cells #[.int .i64 s.length, vl] 81 (0, 0)) ∧ W.ownsRow lo0 83 2 vl k (levelCells wd s bv k) ∧ bt < lo0 ∧ lo0 ≤ W.heap.size ∧
    ∀ j, j < k → ∃ lo hi, HeldVec lo hi W (bv j) s.length (lvBits wd s j) ∧ lo0 ≤ lo ∧ hi ≤ W.heap.size ∧ ∀ g, vl.ownBlock = some g → g < lo ∨ hi ≤ g
theorem Levels.below {W W' : World} {lo0 bt wd : Nat} {s : List Nat} {vl : Value} {bv : Nat → Nat} {k : Nat} (h : Levels W lo0 bt wd s vl bv k) (hb : Below W.heap.size W W') : Levels W' lo0 bt wd s vl bv k := by
  obtain ⟨h1, h2, h3, h4, h5⟩ := h
  refine ⟨(hb.block bt (by omega)).trans h1, own_row_below h2 hb, h3, Nat.le_trans h4 hb.size, fun j hj => ?_⟩
  obtain ⟨lo, hi, a, b, c, d⟩ := h5 j hj
  exact ⟨lo, hi, a.next hb.size fun i _ hi' => hb.block i (by omega), b, Nat.le_trans c hb.size, d⟩
theorem Levels.next {W W8 : World} {lo0 bt wd : Nat} {s : List Nat} {vl vl' : Value} {bv : Nat → Nat} {k b lo hi : Nat} (h : Levels W lo0 bt wd s vl bv k) (hk : Keeps (fun i => some i = vl.ownBlock ∨ i = bt) W W8)
    (hbt : W8.heap[bt]? = some (.cells #[.int .i64 s.length, vl'] 81 (0, 0))) (ho : W8.ownsRow lo0 83 2 vl' (k + 1) (levelCells wd s bv k ++ [.pointer (some ⟨b, 0, none⟩), .int .i64 (lvZeros wd s k)]))
    (hv : HeldVec lo hi W8 b s.length (lvBits wd s k)) (hlo : W.heap.size ≤ lo) (hhi : hi ≤ W8.heap.size) (hg : ∀ i, vl'.ownBlock = some i → vl.ownBlock = some i ∨ (W.heap.size ≤ i ∧ (i < lo ∨ hi ≤ i))) :
    Levels W8 lo0 bt wd s vl' (fun j => if j = k then b else bv j) (k + 1) := by
  obtain ⟨h1, h2, h3, h4, h5⟩ := h
  refine ⟨hbt, ?_, h3, Nat.le_trans h4 hk.size, fun j hj => ?_⟩
  · have : levelCells wd s (fun j => if j = k then b else bv j) (k + 1) = levelCells wd s bv k ++ [.pointer (some ⟨b, 0, none⟩), .int .i64 (lvZeros wd s k)] := by
      rw [levelCells, levelCells_congr (bv' := bv) fun j hj => by rw [if_neg (by omega)], if_pos rfl]
    rw [this]
    exact ho
  · rcases Nat.lt_succ_iff_lt_or_eq.1 hj with h | rfl
    · obtain ⟨lo', hi', a, b', c, d⟩ := h5 j h
      refine ⟨lo', hi', ?_, b', Nat.le_trans c hk.size, fun i hi => ?_⟩
      · simp only [if_neg (show j ≠ k by omega)]
        refine a.next hk.size fun i i1 i2 => hk.block i (by omega) ?_
        rintro (e | e)
        · have := d i e.symm; omega
        · omega
      · rcases hg i hi with q | q
        · exact d i q
        · omega
    · refine ⟨lo, hi, ?_, Nat.le_trans h4 hlo, hhi, fun i hi => ?_⟩
      · simp only [if_pos]; exact hv
      · rcases hg i hi with q | q
        · have := own_lt h2 i q; omega
        · exact q.2
theorem own_base {W : World} {base base' n size : Nat} {e : TypeId} {v : Value} {xs : List Value} (ho : W.ownsRow base e size v n xs) (h : base' ≤ base) : W.ownsRow base' e size v n xs := by
  refine ⟨ho.1, ?_⟩
  rcases ho.2 with hx | ⟨g, cap, cur, rfl, hb, rest⟩
  · exact .inl hx
  · exact .inr ⟨g, cap, cur, rfl, by omega, rest⟩
theorem Parting.under {W W' : World} {base bp : Nat} {va v0 v1 : Value} {A : List Bool} {X Y : List Nat} (h : Parting W base bp va v0 v1 A X Y) (hk : Keeps (· < bp) W W') : Parting W' base bp va v0 v1 A X Y := by
  obtain ⟨h1, h2, h3, h4, s1, s2, s3, b1, b2⟩ := h
  exact ⟨hk.heap h1 (by omega), hk.own h2 (fun i hi q => by have := (h2.lt i hi).1; omega), hk.own h3 (fun i hi q => by have := (h3.lt i hi).1; omega), hk.own h4 (fun i hi q => by have := (h4.lt i hi).1; omega), s1, s2, s3, b1, Nat.le_trans b2 hk.size⟩
theorem Levels.tree {W : World} {lo0 bt wd : Nat} {s : List Nat} {vl : Value} {bv : Nat → Nat} (h : Levels W lo0 bt wd s vl bv wd) (h1 : 1 ≤ wd) (h2 : wd ≤ 16) (hl : s.length ≤ 131072) (hs : ∀ x ∈ s, x < 2 ^ wd) : IsTree W bt wd s := by
  obtain ⟨e1, e2, e3, e4, e5⟩ := h
  obtain ⟨g, cap, rfl, hg⟩ := e2.form (by omega)
  refine ⟨g, 0, cap, bv, (cell_heap e1).trans rfl, (cell_heap e1).trans rfl, fun k hk => ?_, h1, h2, hl, hs⟩
  have hc := levelCells_get wd s bv wd k hk
  obtain ⟨lo, hi, hv, _⟩ := e5 k hk
  have ad : ∀ i, (⟨g, 0, none⟩ : Addr).add i = ⟨g, 0 + i, none⟩ := fun i => by unfold Addr.add; split <;> simp_all
  have q1 := e2.cells (g := g) rfl _ _ hc.1
  have q2 := e2.cells (g := g) rfl _ _ hc.2
  rw [ad] at q1 q2
  exact ⟨q1, by rw [Nat.add_assoc]; exact q2, hv.now⟩
theorem Levels.agree {W W' : World} {lo lo0 bt wd : Nat} {s : List Nat} {vl : Value} {bv : Nat → Nat} {k : Nat} (h : Levels W lo0 bt wd s vl bv k) (hs : W.heap.size ≤ W'.heap.size) (ha : Agree lo W.heap.size W W') (hb : lo ≤ bt) : Levels W' lo0 bt wd s vl bv k := by
  obtain ⟨h1, h2, h3, h4, h5⟩ := h
  refine ⟨ha.heap h1 hb (by omega), ha.own h2 (by omega) (Nat.le_refl _), h3, by omega, fun j hj => ?_⟩
  obtain ⟨lo', hi', a, b', c, d⟩ := h5 j hj
  exact ⟨lo', hi', a.next hs (fun i i1 i2 => ha i (by omega) (by omega)), b', by omega, d⟩
/-- b is a Tree in w, and stays one while the blocks from lo on stay -/
def HeldTree (lo : Nat) (w : World) (b wd : Nat) (s : List Nat) : Prop := ∀ W, w.heap.size ≤ W.heap.size → Agree lo w.heap.size w W → IsTree W b wd s
end Go.Proofs.Ythgnapngjmgkcaa
