import Derived.Test.YthgnapngjmgkcaaBits2
import Derived.Test.YthgnapngjmgkcaaSoft
import Derived.Deep.DeepCutAuto
import Derived.Deep.RegionHeld3
import Derived.Deep.AppendLies
import Derived.Deep.OwnRows
import Derived.Deep.RegionLaw
import Derived.Laws.IdiomCopy
/- Package bits: made, New, Of. -/
namespace Go.Proofs.Ythgnapngjmgkcaa
open Go.RowKit

theorem Try.info_u64 : (Try.prog.info? 67).map (fun i => (i.zero, i.size, i.bytes)) = some (some (.int .u64 0), 1, 8) := by kernel_rfl
theorem Try.info_int : (Try.prog.info? 3).map (fun i => (i.zero, i.size, i.bytes)) = some (some (.int .i64 0), 1, 8) := by kernel_rfl

/-- make([]uint64, m) -/
theorem make_u64 (m : Nat) (hm : m ≤ 1048576) : ∀ W : World, (Instr.makeSlice 66 (.int .i64 (m : Int)) (.int .i64 (m : Int))).run Try.prog W = .ok (.slice (some ⟨W.heap.size, 0, none⟩) m m) (W.alloc (.cells (madeCells #[.int .u64 0] m) 67)) := by
  intro W
  exact run_make_row' 66 67 (.int .u64 0) 8 Try.underlying66 Try.info_u64 rfl .i64 .i64 m (by omega) (by omega) W

/-- what 'made' has made so far: all blocks known -/
def MadeAt (w0 W : World) (n bx bs bw : Nat) (f : Nat → Bool) : Prop :=
  Laying W n w0.heap.size bx bs bw f ∧ W.heap[bx]? = some (.cells #[.pointer (some ⟨bs, 0, none⟩)] 53 (0, 0)) ∧
    W.heap[bs]? = some (.cells #[.int .i64 n, .slice (some ⟨bw, 0, none⟩) ((n + 63) / 64) ((n + 63) / 64), .slice none 0 0] 103 (0, 0)) ∧ bx ≠ bs ∧ w0.heap.size < bx ∧ w0.heap.size < bs ∧ w0.heap.size < bw ∧ Below w0.heap.size w0 W

theorem madeAt_of {w W : World} {n L bx bs bw : Nat} (hB : Below w.heap.size w W) (hL : (n + 63) / 64 = L) (hn : n ≤ 1048576) (h0 : W.heap[w.heap.size]? = some (.cells #[.int .i64 n] 3 (0, 0)))
    (hx : W.heap[bx]? = some (.cells #[.pointer (some ⟨bs, 0, none⟩)] 53 (0, 0))) (hs : W.heap[bs]? = some (.cells #[.int .i64 n, .slice (some ⟨bw, 0, none⟩) L L, .slice none 0 0] 103 (0, 0)))
    (hw : W.heap[bw]? = some (.cells (madeCells #[.int .u64 0] L) 67 (0, 0))) (n1 : w.heap.size < bx) (n2 : w.heap.size < bs) (n3 : w.heap.size < bw) (n4 : bx ≠ bs) (n5 : bw ≠ bx) (n6 : bw ≠ bs) (m : Nat) : MadeAt w (W.drewN m) n bx bs bw (fun _ => false) := by
  subst hL
  refine ⟨⟨?_, ?_, ?_, ?_, by omega, n5, n6, hn⟩, hx, hs, n4, n1, n2, n3, below_drewN hB m⟩
  · exact (cell_heap h0).trans rfl
  · exact (cell_heap hx).trans rfl
  · exact (cell_heap hs).trans rfl
  · rw [World.heap_drewN, hw]
    congr 2
    apply Array.toList_inj.1
    rw [toList_madeCells_one]
    unfold wordsOf
    apply List.ext_getElem
    · simp
    · intro i h1 h2
      have : word64 (fun _ => false) i = 0 := by
        apply Nat.eq_of_testBit_eq; intro j; rw [word64_testBit]; simp
      simp [this]

def aheads (f : Nat → Bool) (k : Nat) : List Value := (List.range k).map fun j => Value.int .i64 (cnt f (64 * j) : Nat)
@[simp] theorem aheads_length (f : Nat → Bool) (k : Nat) : (aheads f k).length = k := by simp [aheads]
theorem aheads_succ (f : Nat → Bool) (k : Nat) : aheads f (k + 1) = aheads f k ++ [.int .i64 (cnt f (64 * k) : Nat)] := by simp [aheads, List.range_succ]
theorem word_cnt (f : Nat → Bool) (k : Nat) : cnt (word64 f k).testBit 64 = cnt (fun j => f (64 * k + j)) 64 := by
  apply cnt_congr
  intro j hj
  rw [word64_testBit]
  simp [hj]
theorem word_next (f : Nat → Bool) (k : Nat) : cnt f (64 * (k + 1)) = cnt f (64 * k) + cnt (word64 f k).testBit 64 := by
  rw [word_cnt, Nat.mul_succ, cnt_add]

/-- the Vector while its counts are being laid: bx the variable, bs the struct, bw the words; va the counts -/
def Counting (W : World) (base n L bx bs bw : Nat) (f : Nat → Bool) (va : Value) (k : Nat) : Prop :=
  W.heap[bx]? = some (.cells #[.pointer (some ⟨bs, 0, none⟩)] 53 (0, 0)) ∧ W.heap[bs]? = some (.cells #[.int .i64 n, .slice (some ⟨bw, 0, none⟩) L L, va] 103 (0, 0)) ∧
    W.heap[bw]? = some (.cells (wordsOf n f).toArray 67 (0, 0)) ∧ W.ownsRow base 3 1 va k (aheads f k) ∧ bx < base ∧ bs < base ∧ bw < base ∧ base ≤ W.heap.size
theorem Counting.next {W W1 : World} {base n L bx bs bw : Nat} {f : Nat → Bool} {va va1 : Value} {k : Nat} (h : Counting W base n L bx bs bw f va k) (hg : W.grownBy W1 va.ownBlock)
    (ho : W1.ownsRow base 3 1 va1 (k + 1) (aheads f (k + 1))) (nx : bx ≠ bs) (nw : bw ≠ bs) : Counting (W1.setCell ⟨bs, 2, none⟩ va1) base n L bx bs bw f va1 (k + 1) := by
  obtain ⟨h1, h2, h3, h4, b1, b2, b3, b4⟩ := h
  have far : ∀ b, b < base → some b ≠ va.ownBlock := fun b hb e => by have := (h4.lt b e.symm).1; omega
  have k1 : W1.heap[bx]? = some _ := (hg.block bx (by omega) (far _ b1)).trans h1
  have k2 : W1.heap[bs]? = some _ := (hg.block bs (by omega) (far _ b2)).trans h2
  have k3 : W1.heap[bw]? = some _ := (hg.block bw (by omega) (far _ b3)).trans h3
  refine ⟨?_, ?_, ?_, ?_, b1, b2, b3, by have := hg.size; simp; omega⟩
  · rw [Below.heap_setCell _ _ _ _ nx]; exact k1
  · simp [World.setCell, Array.getElem?_modify, k2]
  · rw [Below.heap_setCell _ _ _ _ nw]; exact k3
  · exact ownsRow_setCell_below ho (by simpa using b2) _

theorem Counting.start {w W W1 : World} {n L bx bs bw : Nat} {f : Nat → Bool} (h2 : W.heap[bx]? = some (.cells #[.pointer (some ⟨bs, 0, none⟩)] 53 (0, 0)))
    (h3 : W.heap[bs]? = some (.cells #[.int .i64 n, .slice (some ⟨bw, 0, none⟩) ((n + 63) / 64) ((n + 63) / 64), .slice none 0 0] 103 (0, 0))) (hl : Laying W1 n w.heap.size bx bs bw f) (hk : Keeps (· = bw) W W1) (n2 : bw ≠ bx) (n3 : bw ≠ bs)
    (hL : (n + 63) / 64 = L) : Counting W1 W1.heap.size n L bx bs bw f (.slice none 0 0) 0 := by
  subst hL
  obtain ⟨_, _, _, h4, _⟩ := hl
  have e2 := hk.heap h2 (Ne.symm n2)
  have e3 := hk.heap h3 (Ne.symm n3)
  exact ⟨e2, e3, h4, World.ownsRow_nil _ _ _ _, (Array.getElem?_eq_some_iff.1 e2).1, (Array.getElem?_eq_some_iff.1 e3).1, (Array.getElem?_eq_some_iff.1 h4).1, Nat.le_refl _⟩
theorem Counting.cells {W : World} {base n L bx bs bw : Nat} {f : Nat → Bool} {va : Value} {k : Nat} (h : Counting W base n L bx bs bw f va k) :
    W.cell? ⟨bx, 0, none⟩ = some (.pointer (some ⟨bs, 0, none⟩)) ∧ W.cell? ⟨bs, 0, none⟩ = some (.int .i64 n) ∧ W.cell? ⟨bs, 1, none⟩ = some (.slice (some ⟨bw, 0, none⟩) L L) ∧ W.cell? ⟨bs, 2, none⟩ = some va ∧ W.frozen? ⟨bs, 2, none⟩ = false := by
  obtain ⟨h1, h2, _⟩ := h
  exact ⟨(cell_heap h1).trans rfl, (cell_heap h2).trans rfl, (cell_heap h2).trans rfl, (cell_heap h2).trans rfl, by simp [World.frozen?, h2]⟩
theorem Counting.word {W : World} {base n L bx bs bw : Nat} {f : Nat → Bool} {va : Value} {k : Nat} (h : Counting W base n L bx bs bw f va k) (hL : (n + 63) / 64 = L) (j : Nat) (hj : j < L) :
    W.cell? ⟨bw, j, none⟩ = some (.int .u64 (word64 f j)) := by
  obtain ⟨_, _, h3, _⟩ := h
  rw [cell_heap h3, List.getElem?_toArray, wordsOf_get n f j (by omega)]

theorem Counting.done {W : World} {base n L bx bs bw : Nat} {f : Nat → Bool} {va : Value} (h : Counting W base n L bx bs bw f va (L + 1)) (hL : (n + 63) / 64 = L) (hn : n ≤ 1048576) (hf : ∀ j, n ≤ j → f j = false) : IsVec W bs n f := by
  subst hL
  obtain ⟨c0, c1, c2, c3, c4⟩ := h.cells
  have hw := h.word rfl
  obtain ⟨_, _, _, ho, _⟩ := h
  refine ⟨_, va, c1, c2, c3, ?_, own_sl ho, hn, hf⟩
  have := Sl.mk_ (w := W) (b := bw) (off := 0) (cap := (n + 63) / 64) (xs := wordsOf n f) (by simp) (by omega) (fun i x hx => by
    have hi : i < (n + 63) / 64 := by
      have := (List.getElem?_eq_some_iff.1 hx).1
      simpa using this
    rw [wordsOf_get n f i hi] at hx
    rw [Nat.zero_add, hw i hi, hx])
  rwa [wordsOf_length] at this

theorem Counting.agree {W W' : World} {lo base n L bx bs bw : Nat} {f : Nat → Bool} {va : Value} {k : Nat} (h : Counting W base n L bx bs bw f va k) (hs : W.heap.size ≤ W'.heap.size) (ha : Agree lo W.heap.size W W')
    (h1 : lo ≤ bx) (h2 : lo ≤ bs) (h3 : lo ≤ bw) (h4 : lo ≤ base) : Counting W' base n L bx bs bw f va k := by
  obtain ⟨e1, e2, e3, e4, b1, b2, b3, b4⟩ := h
  exact ⟨ha.heap e1 h1 (by omega), ha.heap e2 h2 (by omega), ha.heap e3 h3 (by omega), ha.own e4 h4 (Nat.le_refl _), b1, b2, b3, by omega⟩
/-- b is a Vector in w, and stays one while the blocks from lo to hi stay -/
def HeldVec (lo hi : Nat) (w : World) (b n : Nat) (f : Nat → Bool) : Prop := ∀ W, w.heap.size ≤ W.heap.size → Agree lo hi w W → IsVec W b n f
theorem HeldVec.now {lo hi : Nat} {w : World} {b n : Nat} {f : Nat → Bool} (h : HeldVec lo hi w b n f) : IsVec w b n f := h w (Nat.le_refl _) fun _ _ _ => rfl
theorem HeldVec.next {lo hi : Nat} {w w' : World} {b n : Nat} {f : Nat → Bool} (h : HeldVec lo hi w b n f) (hs : w.heap.size ≤ w'.heap.size) (ha : Agree lo hi w w') : HeldVec lo hi w' b n f :=
  fun W h1 h2 => h W (Nat.le_trans hs h1) fun k a c => (h2 k a c).trans (ha k a c)

def MadeVec (w : World) (n : Nat) (f : Nat → Bool) (e : Ending) (w' : World) : Prop :=
  ∃ b, e = .returned (.pointer (some ⟨b, 0, none⟩)) ∧ w.heap.size ≤ b ∧ IsVec w' b n f ∧ Below w.heap.size w w' ∧ HeldVec w.heap.size w'.heap.size w' b n f

/-- what 'lay' does: it lays the bits f -/
def Lays (w : World) (n lf bl : Nat) (f : Nat → Bool) : Prop :=
  ∀ (W : World) (bx bs bw : Nat), Laying W n w.heap.size bx bs bw (fun _ => false) → Below w.heap.size w W → w.heap.size ≤ bw →
    Calls Try.prog lf #[.func (.func 83) #[] #[.pointer (some ⟨w.heap.size, 0, none⟩), .pointer (some ⟨bx, 0, none⟩)], .pointer (some ⟨bl, 0, none⟩)] W
      fun e w' => e = .returned (.tuple #[]) ∧ Laying w' n w.heap.size bx bs bw f ∧ Below w.heap.size w w' ∧ Keeps (· = bw) W w'

set_option maxHeartbeats 1000000 in
theorem madeVec (w : World) (n lf bl : Nat) (f : Nat → Bool) (hn : n ≤ 1048576) (eg : ∀ args W, (callFunc lf args).run Try.prog W = .ok (.enter lf args) W) (hlay : Lays w n lf bl f) (hf : ∀ j, n ≤ j → f j = false) :
    Calls Try.prog 57 #[.int .i64 n, .func (.func lf) #[] #[.pointer (some ⟨bl, 0, none⟩)]] w (MadeVec w n f) := by
  have HLAY := Lib.hid hlay
  have HF := Lib.hid hf
  clear hlay hf
  obtain ⟨L, hL⟩ : ∃ L, (n + 63) / 64 = L := ⟨_, rfl⟩
  have hq : ((n : Int) + 64 - 1) / 64 = (L : Int) := by omega
  have hmk := make_u64 L (by omega)
  have hLb : L ≤ 16384 := by omega
  have HL := Lib.hid hL
  clear hL
  have hm1 : (if (n : Int) < 1048576 then (n : Int) else 1048576) = n := by split <;> omega
  have hm2 : (if 0 < n then (n : Int) else 0) = n := by split <;> omega
  go_enter Try.func57, Try.ntmps57
  go_upto_region 2 with fail
  go_cut [5] (fun t5 wx => ∃ bx bs bw, t5 = .pointer (some ⟨bx, 0, none⟩) ∧ Hid (MadeAt w wx n bx bs bw (fun _ => false)))
  case first =>
    go_region
    all_goals (go_wp2_with fail; go_meet)
    all_goals
      first
        | exact ⟨_, _, _, rfl, madeAt_of (below_four _ _ _ _ _) HL.out hn (four_blocks _ _ _ _ _).1 (four_blocks _ _ _ _ _).2.2.2 (four_blocks _ _ _ _ _).2.2.1 (four_blocks _ _ _ _ _).2.1 (by omega) (by omega) (by omega) (by omega) (by omega) (by omega) 1⟩
        | exact ⟨_, _, _, rfl, madeAt_of (below_four _ _ _ _ _) HL.out hn (four_blocks _ _ _ _ _).1 (four_blocks _ _ _ _ _).2.2.1 (four_blocks _ _ _ _ _).2.2.2 (four_blocks _ _ _ _ _).2.1 (by omega) (by omega) (by omega) (by omega) (by omega) (by omega) 1⟩
        | exact ⟨_, _, _, rfl, madeAt_of (below_four _ _ _ _ _) HL.out hn (four_blocks _ _ _ _ _).1 (four_blocks _ _ _ _ _).2.1 (four_blocks _ _ _ _ _).2.2.2 (four_blocks _ _ _ _ _).2.2.1 (by omega) (by omega) (by omega) (by omega) (by omega) (by omega) 1⟩
  case rest =>
    obtain ⟨bx, bs, bw, rfl, hm⟩ := hcut
    obtain ⟨m1, m2, m3, m4, m5, m6, m7, m8⟩ := hm.out
    have hnw := m1
    obtain ⟨_, hx0, _, _, n1, n2, n3, _⟩ := hnw
    have M1 := Lib.hid m1
    clear m1 hm hmk hm1 hm2 hq
    go_wp2_with fail
    have hl2 := HLAY.out wc bx bs bw M1.out m8 (by omega)
    refine hl2.mono ?_
    clear hl2
    rintro e w1 ⟨rfl, hla, hb1, hk1⟩
    have hC := Lib.hid (Counting.start m2 m3 hla hk1 n2 n3 HL.out)
    obtain ⟨c0, c1, c2, c3, c4⟩ := hC.out.cells
    clear m2 m3 hx0 eg
    go_wp2
    clear c0 c1 c2 c3 c4
    have nx := m4
    obtain ⟨i0, hi0, hz0, hz1, hz2⟩ := info_parts Try.info_int
    have hb1s := hb1.size
    have B1 := Lib.hid (show w.heap.size ≤ w1.heap.size from hb1.size)
    go_loopw [6, 28] (fun tc tk wr => ∃ (k : Nat) (va : Value), k ≤ L ∧ tk = .int .i64 k ∧ tc = .int .i64 (cnt f (64 * k) : Nat) ∧ Hid (Counting wr w1.heap.size n L bx bs bw f va k) ∧ Below w.heap.size w wr) (fun _ tk _ => L - (intOf tk).toNat)
    case atStart => exact ⟨0, _, Nat.zero_le _, rfl, rfl, hC.out, hb1⟩
    case round =>
      obtain ⟨k, va, hk, rfl, rfl, hc, hb⟩ := hrel
      obtain ⟨c0, c1, c2, c3, c4⟩ := hc.out.cells
      by_cases hlt : k < L
      · have cw := hc.out.word HL.out k hlt
        have hwl := word64_lt f k
        have hcl := cnt_le f (64 * k)
        have hcl2 := cnt_le (word64 f k).testBit 64
        obtain ⟨d1, d2, d3, hown, b1, b2, b3, b4⟩ := hc.out
        clear d1 d2 d3
        have ax : va.ownBlock ≠ some bx := fun e => by have := (hown.lt bx e).1; omega
        have as_ : va.ownBlock ≠ some bs := fun e => by have := (hown.lt bs e).1; omega
        have lx : bx < wr.heap.size := by omega
        have ls : bs < wr.heap.size := by omega
        have HA : Below wr.heap.size wr (wr.alloc (.cells #[.int .i64 (cnt f (64 * k) : Nat)] 3)).drew := ((Below.refl _ _).alloc (Nat.le_refl _) _).drew
        have e1 := World.new_ne wr _ c0
        have e3 := World.new_ne wr _ c3
        go_wp2
        refine wp_region_mix (Cells2 ⟨bx, 0, none⟩ ⟨bs, 2, none⟩ (.pointer (some ⟨bs, 0, none⟩)) va) [true, true, true, true, true, true] [false, false, false, false, false, false, true, true] [false, false, false, false, false, false, false, false, true, true, true] (by kernel_rfl) (by kernel_rfl) ⟨c0, c3⟩ (fun _ _ d _ _ h => by cases d <;> exact h) ?_
        simp only [selM]
        have hne := meets_ne (S := Cells2 ⟨bx, 0, none⟩ ⟨bs, 2, none⟩ (.pointer (some ⟨bs, 0, none⟩)) va) (w := wr) ⟨c0, c3⟩
        have y0 := Cells2.e1 (a := ⟨bx, 0, none⟩) (b := ⟨bs, 2, none⟩) (u := .pointer (some ⟨bs, 0, none⟩)) (v := va)
        have y3 := Cells2.e2 (a := ⟨bx, 0, none⟩) (b := ⟨bs, 2, none⟩) (u := .pointer (some ⟨bs, 0, none⟩)) (v := va)
        repeat (go_big_quiet_step (fail))
        refine wpQuiet_nil ?_
        clear y0 y3 hne
        refine pre_cons ?_
        go_wp2
        refine mid_normal ⟨⟨cell_below HA c0, cell_below HA c3⟩, pre_cons ?_⟩
        go_wp2_with (at_builtin; refine wpList_append_lies _ rfl _ _ 43 rfl w1.heap.size 3 i0 _ 1 8 Try.underlying43 hi0 hz0 hz1 hz2 rfl (by omega) va k _ rfl ((hown.alloc _).drew) ⟨wr.heap.size, 0, none⟩ 1 1 [.int .i64 (cnt f (64 * k) : Nat)] rfl rfl (World.news_of_block (cs := #[.int .i64 (cnt f (64 * k) : Nat)]) (t := 3) (fr := (0, 0)) (heap_alloc_new wr _)) (by simp [Value.oneCell']) (by omega) (by unfold maxLen; omega) (by omega) (by simp; omega) (wr.heap.size + 1) (by simp) ?_; intro gg cap w2 hown1 hgrow hat hlt2)
        have x0 := (hgrow.cell_far _ (by simp; omega) (Ne.symm ax)).trans (cell_below HA c0)
        have x3 := (hgrow.cell_far _ (by simp; omega) (Ne.symm as_)).trans (cell_below HA c3)
        have x4 := (hgrow.frozen_far _ (by simp; omega) (Ne.symm as_)).trans ((HA.frozen ls).trans c4)
        refine mid_normal ⟨⟨x0, x3⟩, pre_nil ?_⟩
        all_goals
          go_wp2_with (go_at_call 69; refine (ones64 (word64 f k) _ (by omega) (by omega)).mono ?_; rintro e w' ⟨rfl, rfl⟩)
          go_roundw
          case rel =>
            refine ⟨k + 1, _, by omega, by go_num, ?_, hc.out.next (World.grownBy.trans (Keeps.grownBy (Keeps.of_below HA _)) hgrow) (by rw [aheads_succ]; exact hown1) nx n3, ?_⟩
            · rw [word_next]; rfl
            · exact ((hb.trans (HA.mono hb.size)).grown hgrow (by have := HA.size; have := hb.size; omega) (fun j hj => by have := (hown.lt j hj).1; omega)).setCell (by simp; omega) _
          case measure => simp [intOf]; omega
      · obtain rfl : k = L := by omega
        have hcl := cnt_le f (64 * k)
        obtain ⟨d1, d2, d3, hown, b1, b2, b3, b4⟩ := hc.out
        clear d1 d2 d3
        have ax : va.ownBlock ≠ some bx := fun e => by have := (hown.lt bx e).1; omega
        have as_ : va.ownBlock ≠ some bs := fun e => by have := (hown.lt bs e).1; omega
        have lx : bx < wr.heap.size := by omega
        have ls : bs < wr.heap.size := by omega
        have HA : Below wr.heap.size wr (wr.alloc (.cells #[.int .i64 (cnt f (64 * k) : Nat)] 3)).drew := ((Below.refl _ _).alloc (Nat.le_refl _) _).drew
        have e1 := World.new_ne wr _ c0
        have e3 := World.new_ne wr _ c3
        go_wp2
        refine wp_region_mix (Cells2 ⟨bx, 0, none⟩ ⟨bs, 2, none⟩ (.pointer (some ⟨bs, 0, none⟩)) va) [true, true, true, true, true, true] [false, false, false, false, false, false, true, true] [false, false, false, false, false, false, false, false, true, true, true] (by kernel_rfl) (by kernel_rfl) ⟨c0, c3⟩ (fun _ _ d _ _ h => by cases d <;> exact h) ?_
        simp only [selM]
        have hne := meets_ne (S := Cells2 ⟨bx, 0, none⟩ ⟨bs, 2, none⟩ (.pointer (some ⟨bs, 0, none⟩)) va) (w := wr) ⟨c0, c3⟩
        have y0 := Cells2.e1 (a := ⟨bx, 0, none⟩) (b := ⟨bs, 2, none⟩) (u := .pointer (some ⟨bs, 0, none⟩)) (v := va)
        have y3 := Cells2.e2 (a := ⟨bx, 0, none⟩) (b := ⟨bs, 2, none⟩) (u := .pointer (some ⟨bs, 0, none⟩)) (v := va)
        repeat (go_big_quiet_step (fail))
        refine wpQuiet_nil ?_
        clear y0 y3 hne
        refine pre_cons ?_
        go_wp2
        refine mid_normal ⟨⟨cell_below HA c0, cell_below HA c3⟩, pre_cons ?_⟩
        go_wp2_with (at_builtin; refine wpList_append_lies _ rfl _ _ 43 rfl w1.heap.size 3 i0 _ 1 8 Try.underlying43 hi0 hz0 hz1 hz2 rfl (by omega) va k _ rfl ((hown.alloc _).drew) ⟨wr.heap.size, 0, none⟩ 1 1 [.int .i64 (cnt f (64 * k) : Nat)] rfl rfl (World.news_of_block (cs := #[.int .i64 (cnt f (64 * k) : Nat)]) (t := 3) (fr := (0, 0)) (heap_alloc_new wr _)) (by simp [Value.oneCell']) (by omega) (by unfold maxLen; omega) (by omega) (by simp; omega) (wr.heap.size + 1) (by simp) ?_; intro gg cap w2 hown1 hgrow hat hlt2)
        have x0 := (hgrow.cell_far _ (by simp; omega) (Ne.symm ax)).trans (cell_below HA c0)
        have x3 := (hgrow.cell_far _ (by simp; omega) (Ne.symm as_)).trans (cell_below HA c3)
        have x4 := (hgrow.frozen_far _ (by simp; omega) (Ne.symm as_)).trans ((HA.frozen ls).trans c4)
        refine mid_normal ⟨⟨x0, x3⟩, pre_nil ?_⟩
        all_goals
          have hC2 := hc.out.next (World.grownBy.trans (Keeps.grownBy (Keeps.of_below HA _)) hgrow) (by rw [aheads_succ]; exact hown1) nx n3
          have hx2 := hC2.cells.1
          clear hC2
          go_wp2
          go_ret
          have hC3 := hc.out.next (World.grownBy.trans (Keeps.grownBy (Keeps.of_below HA _)) hgrow) (by rw [aheads_succ]; exact hown1) nx n3
          refine ⟨bs, rfl, by omega, hC3.done HL.out hn HF.out, ?_, fun W q1 q2 => (hC3.agree q1 q2 (by omega) (by omega) (by omega) (by omega)).done HL.out hn HF.out⟩
          · exact ((hb.trans (HA.mono hb.size)).grown hgrow (by have := HA.size; have := hb.size; omega) (fun j hj => by have := (hown.lt j hj).1; omega)).setCell (by simp; omega) _

theorem vecNew (w : World) (n : Nat) (v : Value) (l : List Nat) (hn : n ≤ 1048576) (hs : Sl w v (nats l)) (hl : ∀ x ∈ l, x < n) :
    Calls Try.prog 37 #[.int .i64 n, v] w (MadeVec w n (fun j => decide (j ∈ l))) := by
  have eg : ∀ args w, (callFunc 58 args).run Try.prog w = .ok (.enter 58 args) w := enters_of Try.func58 (by kernel_rfl) rfl
  have hB : Below w.heap.size w (w.alloc (.cells #[v] 43)) := (Below.refl _ _).alloc (Nat.le_refl _) _
  have hm := madeVec (w.alloc (.cells #[v] 43)) n 58 w.heap.size (fun j => decide (j ∈ l)) hn eg
    (fun W bx bs bw h1 h2 h3 => layNew (w.alloc (.cells #[v] 43)) W n _ bx bs bw w.heap.size v l h1 h2 h3 (by simp) (hs.below hB) hl)
    (fun j hj => decide_eq_false fun hm => by have := hl j hm; omega)
  have HM := Lib.hid hm
  obtain ⟨ao, cap, rfl, _⟩ := hs.form
  rw [nats_length] at HM hB ⊢
  clear hm eg hs
  go_enter Try.func37, Try.ntmps37
  go_wp2_with (go_at_call 57; refine HM.out.mono ?_; rintro e w1 ⟨b, rfl, hb, hv, hbe, hheld⟩)
  go_ret
  exact ⟨b, rfl, by simp at hb; omega, hv, below_up hB hbe hB.size, fun W q1 q2 => hheld W q1 fun k a c => q2 k (by simp at a; omega) c⟩
theorem vecOf (w : World) (v : Value) (l : List Bool) (hn : l.length ≤ 1048576) (hs : Sl w v (bools l)) :
    Calls Try.prog 56 #[v] w (MadeVec w l.length (fun j => l.getD j false)) := by
  have eg : ∀ args w, (callFunc 82 args).run Try.prog w = .ok (.enter 82 args) w := enters_of Try.func82 (by kernel_rfl) rfl
  have hB : Below w.heap.size w (w.alloc (.cells #[v] 91)) := (Below.refl _ _).alloc (Nat.le_refl _) _
  have hm := madeVec (w.alloc (.cells #[v] 91)) l.length 82 w.heap.size (fun j => l.getD j false) hn eg
    (fun W bx bs bw h1 h2 h3 => layOf (w.alloc (.cells #[v] 91)) W _ bx bs bw w.heap.size v l h1 h2 h3 (by simp) (hs.below hB))
    (fun j hj => by simp [List.getD_eq_getElem?_getD, List.getElem?_eq_none hj])
  have HM := Lib.hid hm
  obtain ⟨ao, cap, rfl, _⟩ := hs.form
  rw [bools_length] at HM hB ⊢
  clear hm eg hs
  go_enter Try.func56, Try.ntmps56
  go_wp2_with (go_at_call 57; refine HM.out.mono ?_; rintro e w1 ⟨b, rfl, hb, hv, hbe, hheld⟩)
  go_ret
  exact ⟨b, rfl, by simp at hb; omega, hv, below_up hB hbe hB.size, fun W q1 q2 => hheld W q1 fun k a c => q2 k (by simp at a; omega) c⟩
end Go.Proofs.Ythgnapngjmgkcaa
