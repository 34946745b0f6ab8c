import Derived.Test.YthgnapngjmgkcaaLaw2
/- Package haystacklaw7: FmOfNothing, FmLong return true. -/
namespace Go.Proofs.Ythgnapngjmgkcaa
open Go.RowKit Go.Shelf

set_option maxRecDepth 100000 in
set_option maxHeartbeats 4000000 in
theorem walkNothing0 (w : World) (ao : Option Addr) (len cap : Nat) (i : Int) (hi : (Lit.int .i64 i).wf = true) :
    Calls Try.prog 8 #[.slice ao len cap, .int .i64 i] w fun e w' => e = .returned (.bool true) ∧ Below w.heap.size w w' := by
  have H1 := Lib.hid (fun W => idxCountNil W ao len cap)
  have H2 := Lib.hid (fun W => idxLocateNil W ao len cap)
  have H3 := Lib.hid (fun W => idxDocsNil W)
  have H4 := Lib.hid (fun W => idxLenNil W i)
  have H5 := Lib.hid (fun W => idxExtractNil W i i i)
  have H6 := Lib.hid (fun W => idxTurnedNil W)
  have H7 := Lib.hid (fun W => lawKnown W)
  by_cases h : 800 < len
  · have d1 : decide ((800 : Int) < (len : Int)) = true := decide_eq_true (by omega)
    go_enter Try.func8, Try.ntmps8
    go_wp2
    go_ret
    exact ⟨rfl, Below.refl _ _⟩
  · have d1 : decide ((800 : Int) < (len : Int)) = false := decide_eq_false (by omega)
    go_enter Try.func8, Try.ntmps8
    go_wp2_with (first
      | (go_at_call 12; refine (H1.out _).mono ?_; rintro e w1 ⟨rfl, hb1⟩)
      | (go_at_call 13; refine (H2.out _).mono ?_; rintro e w2 ⟨rfl, hb2⟩; have hb2 := below_up hb1 hb2 hb1.size)
      | (go_at_call 17; refine (H3.out _).mono ?_; rintro e w3 ⟨rfl, rfl⟩)
      | (go_at_call 14; refine (H4.out _).mono ?_; rintro e w4 ⟨rfl, rfl⟩)
      | (go_at_call 16; refine (H5.out _).mono ?_; rintro e w5 ⟨rfl, rfl⟩)
      | (go_at_call 18; refine (H6.out _).mono ?_; rintro e w6 ⟨rfl, rfl⟩)
      | (go_at_call 9; refine (H7.out _).mono ?_; rintro e w7 ⟨rfl, hb7⟩; have hb7 := below_up hb2 hb7 hb2.size))
    go_ret
    exact ⟨rfl, hb7⟩

theorem walkNothing (w : World) (v : Value) (l : List UInt8) (i : Int) (hv : Sl w v (bytes l)) (hi : (Lit.int .i64 i).wf = true) :
    Calls Try.prog 8 #[v, .int .i64 i] w fun e w' => e = .returned (.bool true) ∧ Below w.heap.size w w' := by
  obtain ⟨ao, cap, rfl, _, _⟩ := hv.form
  exact walkNothing0 w ao _ cap i hi
theorem Try.info_slu8 : (Try.prog.info? 24).map (fun i => (i.zero, i.size, i.bytes)) = some (some (.slice none 0 0), 1, 24) := by kernel_rfl

/-- rows of zero bytes in blocks of their own, apart from a row -/
def ZRow (w : World) (va : Value) (z : Nat) (vs : List Value) : Prop :=
  ∀ (i : Nat) (x : Value), vs[i]? = some x → ∃ bx, x = .slice (some ⟨bx, 0, none⟩) z z ∧ va.ownBlock ≠ some bx ∧ bx < w.heap.size ∧ ∀ j, j < z → w.cell? ⟨bx, j, none⟩ = some (.int .u8 0)
theorem zrow_step {w w' : World} {va : Value} {z g m cap : Nat} {vs : List Value} {t1 : TypeId} {o : Obj} (hZ : ZRow w va z vs) (hown : ∀ b, va.ownBlock = some b → b < w.heap.size)
    (hg : ((w.alloc (.cells (madeCells #[.int .u8 0] z) t1)).alloc o).grownBy w' va.ownBlock) (hat : va.ownBlock = some g ∨ g = w.heap.size + 1 + 1) (hsz : w.heap.size + 2 ≤ w'.heap.size) :
    ZRow w' (.slice (some ⟨g, 0, none⟩) m cap) z (vs ++ [.slice (some ⟨w.heap.size, 0, none⟩) z z]) := by
  have hb : Below w.heap.size w ((w.alloc (.cells (madeCells #[.int .u8 0] z) t1)).alloc o) := (below_alloc _ _).alloc (by simp) _
  have hgb : ∀ bx, va.ownBlock ≠ some bx → bx < w.heap.size + 1 → (Value.slice (some ⟨g, 0, none⟩) m cap).ownBlock ≠ some bx := by
    intro bx h1 h2 e
    simp [Value.ownBlock] at e
    rcases hat with h | h
    · rw [h] at h1; exact h1 (by rw [e])
    · omega
  intro i x hx
  by_cases hi : i < vs.length
  · rw [List.getElem?_append_left hi] at hx
    obtain ⟨bx, rfl, h1, h2, h3⟩ := hZ i x hx
    exact ⟨bx, rfl, hgb bx h1 (by omega), by omega, fun j hj => (hg.cell_far _ (by simp; omega) (Ne.symm h1)).trans (cell_below hb (h3 j hj))⟩
  · have hl : i < (vs ++ [Value.slice (some ⟨w.heap.size, 0, none⟩) z z]).length := (List.getElem?_eq_some_iff.1 hx).1
    simp at hl
    obtain rfl : i = vs.length := by omega
    rw [List.getElem?_append_right (Nat.le_refl _)] at hx
    simp at hx
    subst hx
    have hne : va.ownBlock ≠ some w.heap.size := fun e => absurd (hown _ e) (by omega)
    refine ⟨_, rfl, hgb _ hne (by omega), by omega, fun j hj => (hg.cell_far _ (by simp; omega) (Ne.symm hne)).trans ?_⟩
    refine cell_below (w := w.alloc (.cells (madeCells #[.int .u8 0] z) t1)) (below_alloc _ _) ?_
    rw [World.cell?_alloc_new, ← Array.getElem?_toList, toList_madeCells_one]
    simp [hj]
theorem zrow_texts {w : World} {va : Value} {z n : Nat} {vs : List Value} (hZ : ZRow w va z vs) (hn : vs.length = n) (hz : z ≤ 4096) (hs : Sl w va vs) : Texts w va (List.replicate n (List.replicate z 0)) := by
  refine ⟨vs, hs, by simp [hn], fun i t x h1 h2 => ?_⟩
  obtain ⟨bx, rfl, _, _, h3⟩ := hZ i x h2
  have ht : t = List.replicate z 0 := by
    have h4 := List.mem_of_getElem? h1
    exact (List.mem_replicate.1 h4).2
  subst ht
  have hl : (bytes (List.replicate z 0)).length = z := by rw [bytes_length]; simp
  have := Sl.mk_ (w := w) (b := bx) (off := 0) (cap := z) (xs := bytes (List.replicate z 0)) (by omega) (by omega) (fun j y hy => ?_)
  · rwa [hl] at this
  · have hj : j < z := by rw [← hl]; exact (List.getElem?_eq_some_iff.1 hy).1
    rw [bytes_get _ _ (by simpa using hj)] at hy
    rw [Nat.zero_add, h3 j hj, ← hy]
    simp
theorem long_row (n z : Nat) : (rowOf (List.replicate n (List.replicate z 0))).length = n * (z + 1) + 1 := by
  rw [rowOf_length]
  simp only [List.length_replicate]
  have : ∀ k, k ≤ n → stOf (List.replicate n (List.replicate z 0)) k = k * (z + 1) := by
    intro k
    induction k with
    | zero => simp
    | succ k ih =>
      intro h
      rw [stOf_succ _ _ (by simp; omega), ih (by omega), List.getD_eq_getElem?_getD, List.getElem?_replicate, if_pos (by omega)]
      simp [Nat.succ_mul]
      omega
  rw [this n (Nat.le_refl _)]

set_option maxRecDepth 100000 in
set_option maxHeartbeats 4000000 in
theorem walkLong (w : World) (a b : Int) (ha : (Lit.int .i64 a).wf = true) (hb : (Lit.int .i64 b).wf = true) :
    Calls Try.prog 3 #[.int .i64 a, .int .i64 b] w fun e w' => e = .returned (.bool true) ∧ Below w.heap.size w w' := by
  have H7 := Lib.hid (fun W => lawKnown W)
  by_cases hin : 0 ≤ a ∧ a ≤ 40 ∧ 0 ≤ b ∧ b ≤ 4096
  case neg =>
    have hd : (decide (a < 0) = true) ∨ (decide (a < 0) = false ∧ decide (40 < a) = true) ∨ (decide (a < 0) = false ∧ decide (40 < a) = false ∧ decide (b < 0) = true) ∨ (decide (a < 0) = false ∧ decide (40 < a) = false ∧ decide (b < 0) = false ∧ decide (4096 < b) = true) := by
      simp only [decide_eq_true_eq, decide_eq_false_iff_not]; omega
    rcases hd with d1 | ⟨d1, d2⟩ | ⟨d1, d2, d3⟩ | ⟨d1, d2, d3, d4⟩
    all_goals
      go_enter Try.func3, Try.ntmps3
      go_wp2_with (go_at_call 9; refine (H7.out _).mono ?_; rintro e w7 ⟨rfl, hb7⟩)
      go_ret
      exact ⟨rfl, hb7⟩
  case pos =>
    obtain ⟨n, rfl⟩ := Int.eq_ofNat_of_zero_le hin.1
    obtain ⟨z, rfl⟩ := Int.eq_ofNat_of_zero_le hin.2.2.1
    have hn : n ≤ 40 := by omega
    have hz : z ≤ 4096 := by omega
    clear hin ha hb
    have d1 : decide ((n : Int) < 0) = false := decide_eq_false (by omega)
    have d2 : decide ((40 : Int) < (n : Int)) = false := decide_eq_false (by omega)
    have d3 : decide ((z : Int) < 0) = false := decide_eq_false (by omega)
    have d4 : decide ((4096 : Int) < (z : Int)) = false := decide_eq_false (by omega)
    have hm : n * (z + 1) ≤ 40 * 4097 := Nat.mul_le_mul hn (by omega)
    obtain ⟨N, hN⟩ : ∃ N, n * (z + 1) = N := ⟨_, rfl⟩
    rw [hN] at hm
    have e0 : (n : Int) * ((z : Int) + 1) = (N : Int) := by rw [← hN]; push_cast; rfl
    by_cases hsm : N + 1 ≤ 65536
    · have d5 : decide ((N : Int) + 1 ≤ 65536) = true := decide_eq_true (by omega)
      clear hN
      go_enter Try.func3, Try.ntmps3
      go_wp2_with (go_at_call 9; refine (H7.out _).mono ?_; rintro e w7 ⟨rfl, hb7⟩)
      go_ret
      exact ⟨rfl, hb7⟩
    · have d5 : decide ((N : Int) + 1 ≤ 65536) = false := decide_eq_false (by omega)
      have HN := Lib.hid hN
      obtain ⟨i0, hi0, hz0, hz1, hz2⟩ := info_parts Try.info_slu8
      have hmk := make_u8 z (by omega)
      clear hN
      go_enter Try.func3, Try.ntmps3
      go_wp2
      go_loopw [5, 6] (fun ta tk wr => ∃ (k : Nat) (va : Value) (vs : List Value), k ≤ n ∧ tk = .int .i64 k ∧ va = ta ∧ vs.length = k ∧ Hid (ZRow wr va z vs) ∧ Hid (wr.ownsRow w.heap.size 24 1 va k vs) ∧ Below w.heap.size w wr) (fun _ tk _ => n - (intOf tk).toNat)
      case atStart => exact ⟨0, _, [], Nat.zero_le _, rfl, rfl, rfl, Lib.hid (fun i x h => by simp at h), Lib.hid (World.ownsRow_nil _ _ _ _), Below.refl _ _⟩
      case round =>
        obtain ⟨k, va, vs, hk, rfl, rfl, hvl, hZ, ho, hBr⟩ := hrel
        have hbs := hBr.size
        by_cases hlt : k < n
        · have HVL := Lib.hid hvl
          clear hvl
          go_wp2_with (at_builtin; refine wpList_append_lies _ rfl _ _ 23 rfl w.heap.size 24 i0 _ 1 24 Try.underlying23 hi0 hz0 hz1 hz2 rfl (by omega) va k vs rfl ((ho.out.alloc _).alloc _) ⟨wr.heap.size + 1, 0, none⟩ 1 1 [.slice (some ⟨wr.heap.size, 0, none⟩) z z] rfl rfl (fun j u hj => by match j with | 0 => (simp at hj; subst hj; simp [Addr.add]) | j + 1 => simp at hj) (by simp [Value.oneCell']) (by omega) (by unfold maxLen; omega) (by omega) (by simp; omega) (wr.heap.size + 1 + 1) (by simp) ?_; intro gg cap4 w4 hown1 hgrow hat hlt2)
          go_roundw
          case rel =>
            have hB4 := (((hBr.alloc hBr.size (.cells (madeCells #[.int .u8 0] z) 5)).alloc (by have := hBr.size; simp; omega) (.cells #[.slice (some ⟨wr.heap.size, 0, none⟩) z z] 24)).grown hgrow (by have := hBr.size; simp; omega) (fun i hi => (ho.out.lt i hi).1))
            exact ⟨k + 1, _, _, by omega, by go_num, rfl, by simp [HVL.out], Lib.hid (zrow_step hZ.out (fun i hi => (ho.out.lt i hi).2) hgrow hat (by have := hgrow.size; simp at this; omega)), Lib.hid hown1, hB4⟩
          case measure => simp [intOf]; omega
        · obtain rfl : k = n := by omega
          have HT := Lib.hid (zrow_texts hZ.out hvl (by omega) (own_sl ho.out))
          go_wp2_with (first
            | (go_at_call 10
               refine (fmBuild _ _ _ (by simp; omega) (fun t ht => by rw [(List.mem_replicate.1 ht).2]; simp; omega) HT.out).mono ?_
               rintro e w1 hb
               rw [BuildOk, long_row, HN.out, if_neg (by omega)] at hb
               obtain ⟨rfl, hB1⟩ := hb
               have hB1 := below_up hBr hB1 hBr.size)
            | (go_at_call 9; refine (H7.out _).mono ?_; rintro e w7 ⟨rfl, hb7⟩; have hb7 := below_up hB1 hb7 hB1.size))
          go_ret
          exact ⟨rfl, hb7⟩
end Go.Proofs.Ythgnapngjmgkcaa
