import Derived.RangeFuncWrites
import Derived.RangeFuncBox
import Derived.Shelf.SlIterI.Sorted
import Derived.Test.YthgnapngjmgkcaaStage
import Derived.Test.YthgnapngjmgkcaaIter
import Derived.Test.YthgnapngjmgkcaaFm1
/- Package fm: find: a pattern is sought from its end on (the kit's worked proofs of a range over slices.All, turned to slices.Backward). -/
namespace Go.Proofs.Ythgnapngjmgkcaa
open Go.RowKit Go.Shelf

/-- what slices.Backward gives -/
def backs (p : List UInt8) (j : Nat) : Nat × UInt8 := (p.length - 1 - j, p.getD (p.length - 1 - j) 0)
def encB (x : Nat × UInt8) : Array Value := #[.int .i64 (x.1 : Int), .int .u8 (x.2.toNat : Int)]

/-- what the loop's body keeps -/
def KpB (Bs n₀ : Nat) (A B : World) : Prop := Below n₀ A B ∧ ∀ v, A.cell? ⟨Bs, 0, none⟩ = some v → B.cell? ⟨Bs, 0, none⟩ = some v
theorem KpB.refl (Bs n₀ : Nat) (A : World) : KpB Bs n₀ A A := ⟨Below.refl _ _, fun _ h => h⟩
theorem KpB.trans {Bs n₀ : Nat} {A B C : World} (h : KpB Bs n₀ A B) (k : KpB Bs n₀ B C) : KpB Bs n₀ A C := ⟨h.1.trans k.1, fun v e => k.2 v (h.2 v e)⟩
theorem KpB.put {Bs n₀ : Nat} {w : World} (hn : n₀ ≤ w.heap.size) (W : World) (l : Nat) (o o' : Obj) (hl : w.heap.size ≤ l) (h : W.heap[l]? = some o) (h1 : o.isCells = false) (h2 : o.isWalk = false) : KpB Bs n₀ W (W.putObj l o') :=
  ⟨belowK_b hn W l o o' hl h h1 h2, fun v e => by
    have hne : Bs ≠ l := fun e' => by
      subst e'
      simp only [World.cell?] at e
      rw [h] at e
      cases o <;> first | (cases h1; done) | (have e' : (none : Option Value) = some v := e; cases e'; done)
    rw [← e]
    exact World.cell?_of_block (World.putObj_heap_other hne)⟩

set_option maxRecDepth 100000 in
set_option maxHeartbeats 2000000 in
theorem backward1 (n : Nat) (hn : 1 ≤ n) (l Bs n₀ b off cap : Nat) (p : List UInt8) (h0 : 0 < p.length) (hreach : p.length ≤ 1048576) (hb : b < n₀) (J Jx : List (Nat × UInt8) → World → Prop)
    (hY : ∀ pre x W, J pre W → pre.length < p.length → YieldAt Fence.wide (n - 1) Try.prog l (encB x) W fun e W' =>
      (e = .returned (.bool true) ∧ J (pre ++ [x]) W' ∧ KpB Bs n₀ W W') ∨ (e = .returned (.bool false) ∧ Jx (pre ++ [x]) W'))
    (W : World) (hBs : W.cell? ⟨Bs, 0, none⟩ = some (.slice (some ⟨b, off, none⟩) p.length cap)) (hc : ∀ i x, (bytes p)[i]? = some x → W.cell? ⟨b, off + i, none⟩ = some x) (hJ : J [] W) :
    CallsIn Fence.wide n Try.prog 62 #[.func (.yield l) #[] #[], .pointer (some ⟨Bs, 0, none⟩)] W fun e W' => (∃ v, e = .returned v) ∧
      ((∃ ys, ys = upTo1 (backs p) p.length ∧ J ys W') ∨ (∃ pre, (∃ k, k ≤ p.length ∧ pre = upTo1 (backs p) k) ∧ Jx pre W')) := by
  obtain ⟨len, hlen⟩ : ∃ len, p.length = len := ⟨_, rfl⟩
  have HC := Lib.hid hc
  clear hc
  rw [hlen] at hBs h0 hreach ⊢
  have HLEN := Lib.hid hlen
  have HY := Lib.hid hY
  clear hlen hY
  refine callsIn_of_wp Try.func62 rfl trivial ?_ rfl
  simp only [Try.ntmps62, List.size_toArray, List.length_cons, List.length_nil, Nat.reduceAdd, Nat.reduceSub, Array.replicate_succ, Array.replicate_zero, List.push_toArray, List.append_toArray, List.nil_append, List.cons_append]
  gi_wp2
  gi_loopw [3] (fun i wr => ∃ k : Nat, k ≤ len ∧ i = .int .i64 ((len : Int) - 1 - k) ∧ J (upTo1 (backs p) k) wr ∧ KpB Bs n₀ W wr)
    (fun i _ => (intOf i + 1).toNat)
  case atStart => exact ⟨0, Nat.zero_le _, by simp, hJ, KpB.refl _ _ _⟩
  case round =>
    obtain ⟨k, hk, rfl, hJs, hnx⟩ := hrel
    by_cases hlt : k < len
    · obtain ⟨m, hm⟩ : ∃ m, len - 1 - k = m := ⟨_, rfl⟩
      have hmp : m < p.length := by rw [HLEN.out]; omega
      have hx : backs p k = (m, p[m]) := by rw [backs, HLEN.out, hm, List.getD_eq_getElem?_getD, List.getElem?_eq_getElem hmp]; rfl
      obtain ⟨fn, tmps, assign, body, hy, hR⟩ := HY.out _ (m, p[m]) wr hJs (by rw [upTo1_length, HLEN.out]; exact hlt)
      have hcx := (hnx.1.cell (p := ⟨b, off + m, none⟩) hb).trans (HC.out m _ (bytes_get p m hmp))
      have hq : (len : Int) - 1 - k = (m : Int) := by omega
      have hml : m < len := by omega
      have hBs2 : wr.cell? ⟨Bs, 0, none⟩ = some (.slice (some ⟨b, off, none⟩) len cap) := hnx.2 _ hBs
      unfold encB at hy
      dsimp only at hy
      rw [hq]
      have HX := Lib.hid hx
      generalize p[m] = x at hy hR hcx HX
      have HQ := Lib.hid hq
      have HM := Lib.hid hm
      clear hq hx hm hmp
      gi_wp2
      refine hR.mono ?_
      rintro e W3 (⟨rfl, hJ3, hk3⟩ | ⟨rfl, hJx3⟩)
      · gi_wp2
        go_roundw
        case rel => exact ⟨k + 1, by omega, by have := HQ.out; simp; omega, by rw [upTo1_succ, HX.out]; exact hJ3, hnx.trans hk3⟩
        case measure => simp [intOf] <;> omega
      · gi_wp2
        refine bodyPost_ret (results_none rfl _ _ _) rfl ?_
        exact ⟨⟨_, rfl⟩, .inr ⟨_, ⟨k + 1, by omega, by rw [upTo1_succ, HX.out]⟩, hJx3⟩⟩
    · obtain rfl : k = len := by omega
      gi_wp2
      go_end0
      exact ⟨⟨_, rfl⟩, .inl ⟨_, rfl, hJs⟩⟩

theorem backwardCall (n : Nat) (a : Option Addr) (len cap : Nat) (w : World) :
    CallsIn Fence.wide n Try.prog 39 #[.slice a len cap] w fun e w' => e = .returned (.func (.func 62) #[] #[.pointer (some ⟨w.heap.size, 0, none⟩)]) ∧ w' = w.alloc (.cells #[.slice a len cap] 24) := by
  refine callsIn_wide.2 ?_
  go_enter Try.func39, Try.ntmps39
  go_wp2
  go_ret
  exact ⟨rfl, rfl⟩
theorem entersBack : ∀ args w, (callFunc 62 args).run Try.prog w = .ok (.enter 62 args) w := enters_of Try.func62 (by kernel_rfl) rfl

/-- what of the pattern has been sought -/
def sufB (pre : List (Nat × UInt8)) : List Nat := ((pre.map (·.2)).reverse).map sh
theorem sufB_snoc (pre : List (Nat × UInt8)) (x : Nat × UInt8) : sufB (pre ++ [x]) = sh x.2 :: sufB pre := by simp [sufB]
theorem backs_rev (p : List UInt8) (k : Nat) (hk : k ≤ p.length) : ((upTo1 (backs p) k).map (·.2)).reverse = p.drop (p.length - k) := by
  induction k with
  | zero => simp [upTo1]
  | succ k ih =>
    have hl : p.length - (k + 1) < p.length := by omega
    rw [upTo1_succ, List.map_append, List.reverse_append, ih (by omega), List.drop_eq_getElem_cons hl, show p.length - (k + 1) + 1 = p.length - k by omega]
    simp [backs, List.getD_eq_getElem?_getD, show p.length - 1 - k = p.length - (k + 1) by omega, List.getElem?_eq_getElem hl]
theorem heap_own {W W' : World} {row : Option Nat} {k : Nat} {cs : Array Value} {t : TypeId} (h : W.heap[k]? = some (.cells cs t (0, 0))) (hg : W.grownBy W' row) (hr : ∀ r, row = some r → ∃ o : Obj, W.heap[r]? = some o ∧ o.isCells = false) : W'.heap[k]? = some (.cells cs t (0, 0)) := by
  refine (hg.block k (Array.getElem?_eq_some_iff.1 h).1 fun e => ?_).trans h
  obtain ⟨o, ho, hc⟩ := hr k e.symm
  rw [h] at ho
  cases ho
  cases hc
/-- between two rounds -/
def MidF (hs b : Nat) (s sa : List Nat) (pre : List (Nat × UInt8)) (W : World) : Prop :=
  ∃ fr tt : Nat, W.heap[hs]? = some (.cells #[.pointer (some ⟨b, 0, none⟩)] 25 (0, 0)) ∧ W.heap[hs + 1]? = some (.cells #[.int .i64 fr] 3 (0, 0)) ∧ W.heap[hs + 1 + 1]? = some (.cells #[.int .i64 tt] 3 (0, 0)) ∧
    Ival s sa (sufB pre) fr tt ∧ (pre = [] ∨ fr < tt)
def StopF (hs : Nat) (s sa : List Nat) (pre : List (Nat × UInt8)) (W : World) : Prop :=
  ∃ fr tt : Nat, W.heap[hs + 1]? = some (.cells #[.int .i64 0] 3 (0, 0)) ∧ W.heap[hs + 1 + 1]? = some (.cells #[.int .i64 0] 3 (0, 0)) ∧ Ival s sa (sufB pre) fr tt ∧ tt ≤ fr ∧ pre ≠ []
def Cells5 (a b c d f : Addr) (u v x y z : Value) (w : World) : Prop := w.cell? a = some u ∧ w.cell? b = some v ∧ w.cell? c = some x ∧ w.cell? d = some y ∧ w.cell? f = some z
def FindOk (w : World) (s sa : List Nat) (p : List UInt8) (e : Ending) (w' : World) : Prop :=
  ∃ fr tt : Nat, e = .returned (.tuple #[.int .i64 fr, .int .i64 tt]) ∧ Ival s sa (p.map sh) fr tt ∧ fr ≤ tt ∧ Below w.heap.size w w'
theorem set_box {W : World} {B : Nat} {v u : Value} {t : TypeId} (h : W.heap[B]? = some (.cells #[v] t (0, 0))) : (W.setCell ⟨B, 0, none⟩ u).heap[B]? = some (.cells #[u] t (0, 0)) := by
  obtain ⟨hlt, hk⟩ := Array.getElem?_eq_some_iff.1 h
  show (W.heap.modify B _)[B]? = _
  rw [Array.getElem?_eq_getElem (by rw [Array.size_modify]; exact hlt), Array.getElem_modify_self, hk]
  rfl

theorem keepsFrom_below {B : Nat} {W W' : World} (h : Below W.heap.size W W') : KeepsFrom B W W' := ⟨h.size, fun k o _ hk _ => (h.block k (Array.getElem?_eq_some_iff.1 hk).1).trans hk⟩
theorem stepF {W W2 : World} {hs b B : Nat} {u1 u2 v1 v2 : Value} (hb : Below W.heap.size W W2) (q1 : W.heap[hs]? = some (.cells #[.pointer (some ⟨b, 0, none⟩)] 25 (0, 0))) (q2 : W.heap[hs + 1]? = some (.cells #[v1] 3 (0, 0))) (q3 : W.heap[hs + 1 + 1]? = some (.cells #[v2] 3 (0, 0))) :
    KeepsFrom B W ((W2.setCell ⟨hs + 1, 0, none⟩ u1).setCell ⟨hs + 1 + 1, 0, none⟩ u2) ∧ KpB (hs + 1 + 1 + 1) hs W ((W2.setCell ⟨hs + 1, 0, none⟩ u1).setCell ⟨hs + 1 + 1, 0, none⟩ u2) ∧
      ((W2.setCell ⟨hs + 1, 0, none⟩ u1).setCell ⟨hs + 1 + 1, 0, none⟩ u2).heap[hs]? = some (.cells #[.pointer (some ⟨b, 0, none⟩)] 25 (0, 0)) ∧
      ((W2.setCell ⟨hs + 1, 0, none⟩ u1).setCell ⟨hs + 1 + 1, 0, none⟩ u2).heap[hs + 1]? = some (.cells #[u1] 3 (0, 0)) ∧
      ((W2.setCell ⟨hs + 1, 0, none⟩ u1).setCell ⟨hs + 1 + 1, 0, none⟩ u2).heap[hs + 1 + 1]? = some (.cells #[u2] 3 (0, 0)) := by
  have l1 : hs < W.heap.size := (Array.getElem?_eq_some_iff.1 q1).1
  have l2 : hs + 1 < W.heap.size := (Array.getElem?_eq_some_iff.1 q2).1
  have l3 : hs + 1 + 1 < W.heap.size := (Array.getElem?_eq_some_iff.1 q3).1
  have p1 := (hb.block _ l1).trans q1
  have p2 := (hb.block _ l2).trans q2
  have p3 := (hb.block _ l3).trans q3
  refine ⟨(keepsFrom_below hb).trans (((KeepsOthers.setCell W2 ⟨hs + 1, 0, none⟩ u1).from B).trans ((KeepsOthers.setCell _ ⟨hs + 1 + 1, 0, none⟩ u2).from B)), ⟨?_, ?_⟩, ?_, ?_, ?_⟩
  · exact ((hb.mono (by omega)).setCell (p := ⟨hs + 1, 0, none⟩) (by show hs ≤ hs + 1; omega) u1).setCell (p := ⟨hs + 1 + 1, 0, none⟩) (by show hs ≤ hs + 1 + 1; omega) u2
  · intro v e
    rw [World.cell?_setCell_other _ _ _ _ (by simp), World.cell?_setCell_other _ _ _ _ (by simp)]
    exact cell_below hb e
  · rw [Below.heap_setCell _ _ _ _ (by show hs ≠ hs + 1 + 1; omega), Below.heap_setCell _ _ _ _ (by show hs ≠ hs + 1; omega)]; exact p1
  · rw [Below.heap_setCell _ _ _ _ (by show hs + 1 ≠ hs + 1 + 1; omega)]; exact set_box p2
  · exact set_box (by rw [Below.heap_setCell _ _ _ _ (by show hs + 1 + 1 ≠ hs + 1; omega)]; exact p3)

set_option maxRecDepth 100000 in
set_option maxHeartbeats 4000000 in
theorem idxFind (b : Nat) (s sa st : List Nat) (w : World) (v : Value) (p : List UInt8) (h : IsIdx w b s sa st) (h0 : 0 < p.length) (hp : p.length ≤ 1048576) (hv : Sl w v (bytes p)) :
    Calls Try.prog 21 #[.pointer (some ⟨b, 0, none⟩), v] w (FindOk w s sa p) := by
  have H := Lib.hid h
  obtain ⟨h1, h2, h3, h4, bt, bl, bm, bp, br, wd, m, vs, f, hm, c0, c1, c2, c3, c4, c5, t0, t1, t2, t3, t4, t5, t6⟩ := h
  obtain ⟨bb, off, cap, rfl, hlc, hcm, hc⟩ := hv.full (by simpa using h0)
  rw [bytes_length] at hlc hv ⊢
  obtain ⟨len, hlen⟩ : ∃ len, p.length = len := ⟨_, rfl⟩
  rw [hlen] at hlc h0 hp hv ⊢
  have hw1 := fun W (hB : Below w.heap.size w W) => idxWhole b s sa st W (H.out.below hB)
  have hl1 := fun W (hB : Below w.heap.size w W) => treeLen bt 9 (turnedOf s sa) W (t0.below hB)
  rw [turnedOf_length h1] at hl1
  have HW1 := Lib.hid hw1
  have HL1 := Lib.hid hl1
  have HC := Lib.hid hc
  have HLEN := Lib.hid hlen
  have T0 := Lib.hid t0
  have T1 := Lib.hid t1
  have H1 := Lib.hid h1
  have H2 := Lib.hid h2
  have H4 := Lib.hid h4
  clear hw1 hl1 hc hlen hm c2 c3 c4 c5 t1 t2 t3 t4 t5 t6 t0 hv h1 h2 h4
  have hA1 : Below w.heap.size w (w.alloc (.cells #[.pointer (some ⟨b, 0, none⟩)] 25)) := (Below.refl _ _).alloc (Nat.le_refl _) _
  have hA2 : Below w.heap.size w ((w.alloc (.cells #[.pointer (some ⟨b, 0, none⟩)] 25)).alloc (.cells #[.int .i64 0] 3)) := hA1.alloc (by simp) _
  have hA3 : Below w.heap.size w (((w.alloc (.cells #[.pointer (some ⟨b, 0, none⟩)] 25)).alloc (.cells #[.int .i64 0] 3)).alloc (.cells #[.int .i64 0] 3)) := hA2.alloc (by simp; omega) _
  have c0' := cell_below hA3 c0
  have f1 : Fence.wide.fn 31 := trivial
  have f2 : Fence.wide.fn 28 := trivial
  have f3 : Fence.wide.fn 39 := trivial
  suffices hmain : CallsIn Fence.wide 9 Try.prog 21 #[.pointer (some ⟨b, 0, none⟩), .slice (some ⟨bb, off, none⟩) len cap] w (FindOk w s sa p) from callsIn_wide.1 hmain
  refine callsIn_of_wp_marks Try.func21 rfl trivial ?_ rfl
  simp only [Try.ntmps21, List.size_toArray, List.length_cons, List.length_nil, Nat.reduceAdd, Nat.reduceSub, Array.replicate_succ, Array.replicate_zero, List.push_toArray, List.append_toArray, List.nil_append, List.cons_append]
  gi_wp2_with (first
    | (gi_at_call 31; refine (callsIn_wide.2 (HW1.out _ hA3)).mono ?_; rintro e w' ⟨rfl, rfl⟩)
    | (gi_at_call 28; refine (callsIn_wide.2 (HL1.out _ hA3)).mono ?_; rintro e w' ⟨rfl, rfl⟩)
    | (gi_at_call 39; refine (backwardCall _ _ _ _ _).mono ?_; rintro e w' ⟨rfl, rfl⟩))
  clear hA1 hA2 hA3 c0' f1 f2 f3 HW1 HL1
  have FB := four_blocks w (.cells #[.pointer (some ⟨b, 0, none⟩)] 25) (.cells #[.int .i64 0] 3) (.cells #[.int .i64 s.length] 3) (.cells #[.slice (some ⟨bb, off, none⟩) len cap] 24)
  have BF := below_four w (.cells #[.pointer (some ⟨b, 0, none⟩)] 25) (.cells #[.int .i64 0] 3) (.cells #[.int .i64 s.length] 3) (.cells #[.slice (some ⟨bb, off, none⟩) len cap] 24)
  obtain ⟨W0, hW0⟩ : ∃ W0, ((((w.alloc (.cells #[.pointer (some ⟨b, 0, none⟩)] 25)).alloc (.cells #[.int .i64 0] 3)).alloc (.cells #[.int .i64 s.length] 3)).alloc (.cells #[.slice (some ⟨bb, off, none⟩) len cap] 24)) = W0 := ⟨_, rfl⟩
  rw [hW0] at FB BF ⊢
  have hz : W0.heap.size = w.heap.size + 4 := by rw [← hW0]; simp
  clear hW0
  obtain ⟨b0, b1, b2, b3⟩ := FB
  obtain ⟨hs, hhs⟩ : ∃ hs, w.heap.size = hs := ⟨_, rfl⟩
  rw [hhs] at hz b0 b1 b2 b3 ⊢
  have bN : W0.cell? ⟨hs + 1 + 1 + 1, 0, none⟩ = some (.slice (some ⟨bb, off, none⟩) len cap) := (cell_heap b3).trans rfl
  have hbb : bb < hs := by
    have := World.block_lt_of_cell? w _ (HC.out 0 _ (bytes_get p 0 (by rw [HLEN.out]; exact h0)))
    rw [← hhs]; exact this
  have hseq : SeqStopsK Fence.wide 8 Try.prog 62 #[.pointer (some ⟨hs + 1 + 1 + 1, 0, none⟩)] encB (KpB (hs + 1 + 1 + 1) hs) (fun ys => ys = upTo1 (backs p) p.length) (fun pre => ∃ k, k ≤ p.length ∧ pre = upTo1 (backs p) k) p.length W0 :=
    fun l J Jx W hW _ _ hY hJ => backward1 8 (by decide) l (hs + 1 + 1 + 1) hs bb off cap p (by rw [HLEN.out]; exact h0) (by rw [HLEN.out]; exact hp) hbb J Jx hY W
      (by rw [HLEN.out]; exact cell_below hW bN) (fun i x hx => cell_below (hhs ▸ (BF.trans (hW.mono (by omega)))) (HC.out i x hx)) hJ
  refine wpIn_rangeFunc_ownG (n := 9) rfl (by decide) (gf := 62) (lb := #[.pointer (some ⟨hs + 1 + 1 + 1, 0, none⟩)]) rfl trivial entersBack hseq (fun h k => h.trans k) (KpB.put (by omega)) (Below.refl _ _) (fun _ => rfl)
    (fun pre W => MidF hs b s sa pre W ∧ Below hs w W)
    (fun c pre W => (c = .ret ∧ StopF hs s sa pre W) ∧ Below hs w W)
    (OwnFrom.and (Own.from (fun q A B row hs hg hr => by obtain ⟨fr, tt, q1, q2, q3, q4⟩ := hs; exact ⟨fr, tt, heap_own q1 hg hr, heap_own q2 hg hr, heap_own q3 hg hr, q4⟩) _) (ownFrom_below (by omega) (by omega)))
    (fun c => OwnFrom.and (Own.from (fun q A B row hs hg hr => by obtain ⟨hc, fr, tt, q1, q2, q4⟩ := hs; exact ⟨hc, fr, tt, heap_own q1 hg hr, heap_own q2 hg hr, q4⟩) _) (ownFrom_below (by omega) (by omega)))
    ⟨⟨0, s.length, b0, b1, b2, Ival.start H1.out, .inl rfl⟩, hhs ▸ BF⟩
    (fun x => { tmps := #[.pointer (some ⟨b, 0, none⟩), .slice (some ⟨bb, off, none⟩) len cap, .pointer (some ⟨hs, 0, none⟩), undef, .pointer (some ⟨hs + 1, 0, none⟩), .pointer (some ⟨hs + 1 + 1, 0, none⟩), undef, .int .u8 (x.2.toNat : Int), undef,
      .pointer (some ⟨b, 0, none⟩), .bool true, .bool false, .bool false, .slice (some ⟨bb, off, none⟩) len cap, .int .i64 len, .bool false, .bool false, .pointer (some ⟨b, 0, none⟩), .pointer (some ⟨b, 0, none⟩), .pointer (some ⟨b, 0, none⟩), .pointer (some ⟨bt, 0, none⟩), .int .i64 s.length,
      .slice (some ⟨bb, off, none⟩) len cap, .func (.func 62) #[] #[.pointer (some ⟨hs + 1 + 1 + 1, 0, none⟩)], .int .i64 (x.1 : Int), .int .u8 (x.2.toNat : Int),
      undef, undef, undef, undef, undef, undef, undef, undef, undef, undef, undef, undef, undef, undef, undef, undef, undef, undef, undef, undef, undef, undef, undef, undef, undef, undef, undef, undef, undef, undef, undef, undef, undef, undef, undef, undef, undef, undef], defers := [] }) ?assign ?body ?done ?stop
  case assign =>
    intro l x W K hK
    unfold encB
    gi_wp2_with gi_round_op_a
    exact hK
  case body =>
    rintro l pre x W ⟨⟨fr, tt, q1, q2, q3, hi, hlt⟩, hB⟩ _
    obtain ⟨c, hc⟩ : ∃ c, sh x.2 = c := ⟨_, rfl⟩
    have hq : ((x.2.toNat : Nat) : Int) + 2 = (c : Int) := by rw [← hc]; unfold sh; omega
    have hxb := x.2.toNat_lt
    have hcl : c < 258 := by rw [← hc]; exact sh_lt _
    have hcp : c ≠ 0 := by rw [← hc]; unfold sh; omega
    have hB' : Below w.heap.size w W := hhs ▸ hB
    have yc := (T1.out.below hB').cell (i := c) (by omega)
    rw [lessN_turned H1.out H2.out.1] at yc
    have hstep := hi.step H1.out H2.out hcp
    have hg1 := goes_le H1.out H2.out hcp hi.1
    have hg2 := goes_le H1.out H2.out hcp hi.2.1
    have R1 := fun W' (hb : Below W.heap.size W W') => treeRank bt 9 c fr (turnedOf s sa) W' ((T0.out.below hB').below hb) (by omega) (by rw [turnedOf_length H1.out]; have := hi.1; omega) (by omega)
    have R2 := fun W' (hb : Below W.heap.size W W') => treeRank bt 9 c tt (turnedOf s sa) W' ((T0.out.below hB').below hb) (by omega) (by rw [turnedOf_length H1.out]; have := hi.2.1; omega) (by omega)
    simp only [Int.toNat_natCast] at R1 R2
    unfold goes at hstep hg1 hg2
    generalize lessN s c = y at yc hstep hg1 hg2
    generalize List.count c (List.take fr (turnedOf s sa)) = z1 at R1 hstep hg1
    generalize List.count c (List.take tt (turnedOf s sa)) = z2 at R2 hstep hg2
    obtain ⟨g1, e1⟩ : ∃ g1, y + z1 = g1 := ⟨_, rfl⟩
    obtain ⟨g2, e2⟩ : ∃ g2, y + z2 = g2 := ⟨_, rfl⟩
    rw [e1] at hstep hg1
    rw [e2] at hstep hg2
    have a1 : (y : Int) + z1 = (g1 : Int) := by omega
    have a2 : (y : Int) + z2 = (g2 : Int) := by omega
    have s1 : IntKind.i64.wrap ((y : Int) + z1) = (g1 : Int) := by rw [IntWalk.i64_in _ (by omega)]; omega
    have s2 : IntKind.i64.wrap ((y : Int) + z2) = (g2 : Int) := by rw [IntWalk.i64_in _ (by omega)]; omega
    clear e1 e2
    have HST := Lib.hid hstep
    have HR1 := Lib.hid R1
    have HR2 := Lib.hid R2
    have HC2 := Lib.hid hc
    have x2 := (cell_heap (o := 0) q1).trans rfl
    have x0 := cell_below hB' c0
    have x1 := cell_below hB' c1
    have x4 := (cell_heap (o := 0) q2).trans rfl
    have x5 := (cell_heap (o := 0) q3).trans rfl
    clear hstep R1 R2 hc
    gi_wp2_with gi_round_op_a
    have hS : (Cells5 ⟨hs, 0, none⟩ ⟨b, 0, none⟩ ⟨b, 1, none⟩ ⟨bl, c, none⟩ ⟨hs + 1 + 1, 0, none⟩ (.pointer (some ⟨b, 0, none⟩)) (.pointer (some ⟨bt, 0, none⟩)) (.slice (some ⟨bl, 0, none⟩) 513 513) (.int .i64 (y : Nat)) (.int .i64 tt)) W.drew := ⟨x2, x0, x1, yc, x5⟩
    refine wpIn_region_stages (Cells5 ⟨hs, 0, none⟩ ⟨b, 0, none⟩ ⟨b, 1, none⟩ ⟨bl, c, none⟩ ⟨hs + 1 + 1, 0, none⟩ (.pointer (some ⟨b, 0, none⟩)) (.pointer (some ⟨bt, 0, none⟩)) (.slice (some ⟨bl, 0, none⟩) 513 513) (.int .i64 (y : Nat)) (.int .i64 tt)) [([true, true, true, true, true, true, true, true, true, true, true, true, false, false, false, true, true, true, true, true, true, true, true, true, true, true, true, true], [false, false, false, false, false, false, false, false, false, false, false, false, true, true]), ([false, false, false, false, false, false, false, false, false, false, false, false, false, false, true], [false, false, false, false, false, false, false, false, false, false, false, false, false, false, false, false, false, false, false, false, false, false, false, false, false, false, false, false, true]), ([false, false, false, false, false, false, false, false, false, false, false, false, false, false, false, false, false, false, false, false, false, false, false, false, false, false, false, false, false, true], [false, false, false, false, false, false, false, false, false, false, false, false, false, false, false, false, false, false, false, false, false, false, false, false, false, false, false, false, false, false, true])] [false, false, false, false, false, false, false, false, false, false, false, false, false, false, false, false, false, false, false, false, false, false, false, false, false, false, false, false, false, false, false, true] (by kernel_rfl) (by kernel_rfl) (by kernel_rfl) (fun ⟨_, _, h⟩ => h) (fun _ _ _ _ _ h => h) ?_
    simp only [wpStages, selM]
    refine ⟨hS, ?_⟩
    have hne := meets_ne (S := (Cells5 ⟨hs, 0, none⟩ ⟨b, 0, none⟩ ⟨b, 1, none⟩ ⟨bl, c, none⟩ ⟨hs + 1 + 1, 0, none⟩ (.pointer (some ⟨b, 0, none⟩)) (.pointer (some ⟨bt, 0, none⟩)) (.slice (some ⟨bl, 0, none⟩) 513 513) (.int .i64 (y : Nat)) (.int .i64 tt))) (w := W.drew) hS
    have y0 : ∀ x : Meet (Cells5 ⟨hs, 0, none⟩ ⟨b, 0, none⟩ ⟨b, 1, none⟩ ⟨bl, c, none⟩ ⟨hs + 1 + 1, 0, none⟩ (.pointer (some ⟨b, 0, none⟩)) (.pointer (some ⟨bt, 0, none⟩)) (.slice (some ⟨bl, 0, none⟩) 513 513) (.int .i64 (y : Nat)) (.int .i64 tt)), x.val.cell? ⟨hs, 0, none⟩ = some (.pointer (some ⟨b, 0, none⟩)) := fun x => x.prop.1
    have y1 : ∀ x : Meet (Cells5 ⟨hs, 0, none⟩ ⟨b, 0, none⟩ ⟨b, 1, none⟩ ⟨bl, c, none⟩ ⟨hs + 1 + 1, 0, none⟩ (.pointer (some ⟨b, 0, none⟩)) (.pointer (some ⟨bt, 0, none⟩)) (.slice (some ⟨bl, 0, none⟩) 513 513) (.int .i64 (y : Nat)) (.int .i64 tt)), x.val.cell? ⟨b, 0, none⟩ = some (.pointer (some ⟨bt, 0, none⟩)) := fun x => x.prop.2.1
    have y2 : ∀ x : Meet (Cells5 ⟨hs, 0, none⟩ ⟨b, 0, none⟩ ⟨b, 1, none⟩ ⟨bl, c, none⟩ ⟨hs + 1 + 1, 0, none⟩ (.pointer (some ⟨b, 0, none⟩)) (.pointer (some ⟨bt, 0, none⟩)) (.slice (some ⟨bl, 0, none⟩) 513 513) (.int .i64 (y : Nat)) (.int .i64 tt)), x.val.cell? ⟨b, 1, none⟩ = some (.slice (some ⟨bl, 0, none⟩) 513 513) := fun x => x.prop.2.2.1
    have y3 : ∀ x : Meet (Cells5 ⟨hs, 0, none⟩ ⟨b, 0, none⟩ ⟨b, 1, none⟩ ⟨bl, c, none⟩ ⟨hs + 1 + 1, 0, none⟩ (.pointer (some ⟨b, 0, none⟩)) (.pointer (some ⟨bt, 0, none⟩)) (.slice (some ⟨bl, 0, none⟩) 513 513) (.int .i64 (y : Nat)) (.int .i64 tt)), x.val.cell? ⟨bl, c, none⟩ = some (.int .i64 (y : Nat)) := fun x => x.prop.2.2.2.1
    have y4 : ∀ x : Meet (Cells5 ⟨hs, 0, none⟩ ⟨b, 0, none⟩ ⟨b, 1, none⟩ ⟨bl, c, none⟩ ⟨hs + 1 + 1, 0, none⟩ (.pointer (some ⟨b, 0, none⟩)) (.pointer (some ⟨bt, 0, none⟩)) (.slice (some ⟨bl, 0, none⟩) 513 513) (.int .i64 (y : Nat)) (.int .i64 tt)), x.val.cell? ⟨hs + 1 + 1, 0, none⟩ = some (.int .i64 tt) := fun x => x.prop.2.2.2.2
    repeat (go_big_quiet_step (fail))
    refine wpQuiet_nil ?_
    refine pre_cons ?_
    have hD : Below W.heap.size W W.drew := (Below.refl _ _).drew
    have x4' := cell_below hD x4
    go_wp2
    refine mid_normal ⟨hS, pre_cons ?_⟩
    have hS1 : ∀ w1, Below W.heap.size W w1 → (Cells5 ⟨hs, 0, none⟩ ⟨b, 0, none⟩ ⟨b, 1, none⟩ ⟨bl, c, none⟩ ⟨hs + 1 + 1, 0, none⟩ (.pointer (some ⟨b, 0, none⟩)) (.pointer (some ⟨bt, 0, none⟩)) (.slice (some ⟨bl, 0, none⟩) 513 513) (.int .i64 (y : Nat)) (.int .i64 tt)) w1 := fun w1 h => ⟨cell_below h x2, cell_below h x0, cell_below h x1, cell_below h yc, cell_below h x5⟩
    have HS1 := Lib.hid hS1
    clear hS1
    go_wp2_with (go_at_call 40; refine (HR1.out _ hD).mono ?_; rintro e w1 ⟨rfl, hb1⟩)
    have hB1 := below_up hD hb1 (Nat.le_refl _)
    refine mid_normal ⟨HS1.out _ hB1, pre_nil ⟨HS1.out _ hB1, ?_⟩⟩
    repeat (go_big_quiet_step (fail))
    refine wpQuiet_nil ?_
    refine pre_cons ?_
    go_wp2_with (go_at_call 40; refine (HR2.out _ hB1).mono ?_; rintro e w2 ⟨rfl, hb2⟩)
    have hB2 := below_up hB1 hb2 hB1.size
    refine mid_normal ⟨HS1.out _ hB2, pre_nil ⟨HS1.out _ hB2, ?_⟩⟩
    repeat (go_big_quiet_step (fail))
    refine wpQuiet_nil ?_
    refine pre_cons ?_
    have z4 := cell_below hB2 x4
    have z5 := cell_below hB2 x5
    have k4 := (hB2.block _ (Array.getElem?_eq_some_iff.1 q2).1).trans q2
    have k5 := (hB2.block _ (Array.getElem?_eq_some_iff.1 q3).1).trans q3
    have w4 : w2.frozen? ⟨hs + 1, 0, none⟩ = false := by simp [World.frozen?, k4]
    have w5 : w2.frozen? ⟨hs + 1 + 1, 0, none⟩ = false := by simp [World.frozen?, k5]
    clear k4 k5
    have hbl := World.block_lt_of_cell? w _ c0
    have hll := (T1.out).lt
    rw [hhs] at hbl hll
    dsimp only at hbl
    have hS3 : (Cells5 ⟨hs, 0, none⟩ ⟨b, 0, none⟩ ⟨b, 1, none⟩ ⟨bl, c, none⟩ ⟨hs + 1 + 1, 0, none⟩ (.pointer (some ⟨b, 0, none⟩)) (.pointer (some ⟨bt, 0, none⟩)) (.slice (some ⟨bl, 0, none⟩) 513 513) (.int .i64 (y : Nat)) (.int .i64 tt)) (w2.setCell ⟨hs + 1, 0, none⟩ (.int .i64 (g1 : Nat))) := by
      obtain ⟨r1, r2, r3, r4, r5⟩ := HS1.out _ hB2
      refine ⟨?_, ?_, ?_, ?_, ?_⟩
      · rw [World.cell?_setCell_other _ _ _ _ (by simp)]; exact r1
      · rw [World.cell?_setCell_other _ _ _ _ (by simp; try omega)]; exact r2
      · rw [World.cell?_setCell_other _ _ _ _ (by simp)]; exact r3
      · rw [World.cell?_setCell_other _ _ _ _ (by simp; try omega)]; exact r4
      · rw [World.cell?_setCell_other _ _ _ _ (by simp)]; exact r5
    have HS3 := Lib.hid hS3
    clear hS3
    go_wp2
    refine mid_normal ⟨HS3.out, pre_nil ?_⟩
    have HST2 := Lib.hid (stepF (B := W0.heap.size) (u1 := .int .i64 (g1 : Nat)) (u2 := .int .i64 (g2 : Nat)) hB2 q1 q2 q3)
    have hBw : Below hs w ((w2.setCell ⟨hs + 1, 0, none⟩ (.int .i64 (g1 : Nat))).setCell ⟨hs + 1 + 1, 0, none⟩ (.int .i64 (g2 : Nat))) :=
      hB.trans HST2.out.2.1.1
    have HBW := Lib.hid hBw
    have v4 := (cell_heap (o := 0) HST2.out.2.2.2.1).trans rfl
    have v5 := (cell_heap (o := 0) HST2.out.2.2.2.2).trans rfl
    have u4 : ((w2.setCell ⟨hs + 1, 0, none⟩ (.int .i64 (g1 : Nat))).setCell ⟨hs + 1 + 1, 0, none⟩ (.int .i64 (g2 : Nat))).frozen? ⟨hs + 1, 0, none⟩ = false := by rw [World.frozen?_setCell, World.frozen?_setCell]; exact w4
    have u5 : ((w2.setCell ⟨hs + 1, 0, none⟩ (.int .i64 (g1 : Nat))).setCell ⟨hs + 1 + 1, 0, none⟩ (.int .i64 (g2 : Nat))).frozen? ⟨hs + 1 + 1, 0, none⟩ = false := by rw [World.frozen?_setCell, World.frozen?_setCell]; exact w5
    clear hBw x2 x0 x1 x4 x5 yc z4 x4' hq a1 a2 s1 s2
    go_wp2
    by_cases hge : g2 ≤ g1
    · have d1 : decide (g2 ≤ g1) = true := decide_eq_true hge
      gi_wp2_with gi_round_op_a
      obtain ⟨e1, e2, e3, e4, e5⟩ := HST2.out
      have St := stepF (B := W0.heap.size) (u1 := .int .i64 0) (u2 := .int .i64 0) (Below.refl _ ((w2.setCell ⟨hs + 1, 0, none⟩ (.int .i64 (g1 : Nat))).setCell ⟨hs + 1 + 1, 0, none⟩ (.int .i64 (g2 : Nat)))) e3 e4 e5
      refine ⟨e1.trans St.1, ⟨rfl, g1, g2, St.2.2.2.1, St.2.2.2.2, ?_, hge, by simp⟩, HBW.out.trans St.2.1.1⟩
      rw [sufB_snoc, HC2.out]
      exact HST.out
    · have d1 : decide (g2 ≤ g1) = false := decide_eq_false hge
      gi_wp2_with gi_round_op_a
      obtain ⟨e1, e2, e3, e4, e5⟩ := HST2.out
      refine ⟨e1, e2, ⟨g1, g2, e3, e4, e5, ?_, .inr (by omega)⟩, HBW.out⟩
      rw [sufB_snoc, HC2.out]
      exact HST.out
  case done =>
    rintro D ys W hD rfl ⟨⟨fr, tt, q1, q2, q3, hi, hor⟩, hB⟩ hK
    have hle : fr ≤ tt := by
      rcases hor with e | e
      · have := congrArg List.length e
        rw [upTo1_length, HLEN.out] at this
        simp at this; omega
      · omega
    clear hor
    have x4 := (cell_heap (o := 0) q2).trans rfl
    have x5 := (cell_heap (o := 0) q3).trans rfl
    have w4 : W.frozen? ⟨hs + 1, 0, none⟩ = false := by simp [World.frozen?, q2]
    have w5 : W.frozen? ⟨hs + 1 + 1, 0, none⟩ = false := by simp [World.frozen?, q3]
    have hI := Lib.hid hi
    clear hi
    gi_wp2
    gi_region
    all_goals
      gi_wp2
      obtain ⟨W2, hW2⟩ : ∃ W2, ((W.setCell ⟨hs + 1, 0, none⟩ (.int .i64 (fr : Nat))).setCell ⟨hs + 1 + 1, 0, none⟩ (.int .i64 (tt : Nat))).drew = W2 := ⟨_, rfl⟩
      have St := stepF (B := W0.heap.size) (u1 := .int .i64 fr) (u2 := .int .i64 tt) (Below.refl _ W) q1 q2 q3
      have hB2 : Below hs w W2 := by rw [← hW2]; exact (hB.trans St.2.1.1).drew
      have hK2 : W2.heap[D]? = some (.deferred (some [])) := by rw [← hW2]; exact (St.1.same D _ (by omega) hK rfl)
      have p4 : W2.heap[hs + 1]? = some (.cells #[.int .i64 (fr : Nat)] 3 (0, 0)) := by rw [← hW2]; exact St.2.2.2.1
      have p5 : W2.heap[hs + 1 + 1]? = some (.cells #[.int .i64 (tt : Nat)] 3 (0, 0)) := by rw [← hW2]; exact St.2.2.2.2
      rw [hW2]
      clear hW2 St
      refine ⟨by simp, .inl ⟨_, _, rfl, run_takeDeferred hK2, ?_⟩⟩
      have hn4 : D ≠ hs + 1 := by omega
      have hn5 : D ≠ hs + 1 + 1 := by omega
      have c4 : (W2.putObj D (.deferred none)).cell? ⟨hs + 1, 0, none⟩ = some (.int .i64 (fr : Nat)) := (cell_heap ((World.putObj_heap_other (Ne.symm hn4)).trans p4)).trans rfl
      have c5 : (W2.putObj D (.deferred none)).cell? ⟨hs + 1 + 1, 0, none⟩ = some (.int .i64 (tt : Nat)) := (cell_heap ((World.putObj_heap_other (Ne.symm hn5)).trans p5)).trans rfl
      refine ⟨.tuple #[.int .i64 fr, .int .i64 tt], ?_, fr, tt, rfl, ?_, hle, ?_⟩
      · simp [results, Try.f21, go_sem, c4, c5]
      · have := hI.out
        rw [sufB, backs_rev p p.length (Nat.le_refl _), Nat.sub_self, List.drop_zero] at this
        exact this
      · rw [hhs]
        exact hB2.trans (belowK_b (w := W0) (by omega) _ D _ _ (by omega) hK2 rfl rfl)
  case stop =>
    rintro D c pre W hD ⟨k, hk, rfl⟩ ⟨⟨rfl, fr, tt, p4, p5, hi, hle, hne⟩, hB⟩ hK
    have hI := Lib.hid hi
    clear hi
    gi_wp2
    refine ⟨by simp, .inl ⟨_, _, rfl, run_takeDeferred hK, ?_⟩⟩
    have hn4 : D ≠ hs + 1 := by omega
    have hn5 : D ≠ hs + 1 + 1 := by omega
    have c4 : (W.putObj D (.deferred none)).cell? ⟨hs + 1, 0, none⟩ = some (.int .i64 0) := (cell_heap ((World.putObj_heap_other (Ne.symm hn4)).trans p4)).trans rfl
    have c5 : (W.putObj D (.deferred none)).cell? ⟨hs + 1 + 1, 0, none⟩ = some (.int .i64 0) := (cell_heap ((World.putObj_heap_other (Ne.symm hn5)).trans p5)).trans rfl
    refine ⟨.tuple #[.int .i64 0, .int .i64 0], ?_, 0, 0, rfl, ?_, Nat.le_refl _, ?_⟩
    · simp [results, Try.f21, go_sem, c4, c5]
    · have hk1 : k ≠ 0 := fun e => hne (by subst e; rfl)
      have := hI.out.none (p' := (p.take (p.length - k)).map sh) H2.out (by intro x hx; obtain ⟨c, _, rfl⟩ := List.mem_map.1 hx; unfold sh; omega) hle (by
        rw [sufB, backs_rev p k hk]
        intro e
        have := congrArg List.length e
        simp at this
        omega)
      rw [sufB, backs_rev p k hk, ← List.map_append, List.take_append_drop] at this
      exact this
    · rw [hhs]
      exact hB.trans (belowK_b (w := W0) (by omega) _ D _ _ (by omega) hK rfl rfl)
end Go.Proofs.Ythgnapngjmgkcaa
