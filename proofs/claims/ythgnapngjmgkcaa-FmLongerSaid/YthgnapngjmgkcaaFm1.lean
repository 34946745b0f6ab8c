import Derived.Test.YthgnapngjmgkcaaWave1
import Derived.Test.YthgnapngjmgkcaaPack1
import Derived.Test.YthgnapngjmgkcaaSfx1
import Derived.Test.YthgnapngjmgkcaaFmS
import Derived.Test.YthgnapngjmgkcaaBwt1
import Derived.IntWalk
/- Package fm: what an Index is in memory; whole, Docs, Len, ahead, place. -/
namespace Go.Proofs.Ythgnapngjmgkcaa
open Go.RowKit

/-- block b holds the Index of the row s, whose texts begin at st -/
def IsIdx (w : World) (b : Nat) (s sa st : List Nat) : Prop :=
  IsSA s sa ∧ Closed s ∧ s.length ≤ 65536 ∧ (∀ x ∈ s, x < 258) ∧
  ∃ (bt bl bm bp br wd m : Nat) (vs : Value) (f : Nat → Bool), (s.length + 7) / 8 = m ∧
    w.cell? ⟨b, 0, none⟩ = some (.pointer (some ⟨bt, 0, none⟩)) ∧ w.cell? ⟨b, 1, none⟩ = some (.slice (some ⟨bl, 0, none⟩) 513 513) ∧ w.cell? ⟨b, 2, none⟩ = some vs ∧
    w.cell? ⟨b, 3, none⟩ = some (.pointer (some ⟨bm, 0, none⟩)) ∧ w.cell? ⟨b, 4, none⟩ = some (.pointer (some ⟨bp, 0, none⟩)) ∧ w.cell? ⟨b, 5, none⟩ = some (.slice (some ⟨br, 0, none⟩) m m) ∧
    IsTree w bt 9 (turnedOf s sa) ∧ Nums w bl 513 (lessN (turnedOf s sa)) ∧ Sl w vs (nats st) ∧ IsVec w bm s.length (marks sa) ∧ IsPack w bp wd m f ∧ (∀ i, i < m → numAt wd f i = (sampled sa).getD i 0) ∧
    Nums w br m (fun k => rk sa (8 * k))
theorem IsIdx.below {w w' : World} {b : Nat} {s sa st : List Nat} (h : IsIdx w b s sa st) (hb : Below w.heap.size w w') : IsIdx w' b s sa st := by
  obtain ⟨h1, h2, h3, h4, bt, bl, bm, bp, br, wd, m, vs, f, hm, c0, c1, c2, c3, c4, c5, t0, t1, t2, t3, t4, t5, t6⟩ := h
  exact ⟨h1, h2, h3, h4, bt, bl, bm, bp, br, wd, m, vs, f, hm, cell_below hb c0, cell_below hb c1, cell_below hb c2, cell_below hb c3, cell_below hb c4, cell_below hb c5, t0.below hb, t1.below hb, t2.below hb, t3.below hb, t4.below hb, t5, t6.below hb⟩

theorem idxWhole (b : Nat) (s sa st : List Nat) (w : World) (h : IsIdx w b s sa st) :
    Calls Try.prog 31 #[.pointer (some ⟨b, 0, none⟩)] w fun e w' => e = .returned (.bool true) ∧ w = w' := by
  obtain ⟨h1, h2, h3, h4, bt, bl, bm, bp, br, wd, m, vs, f, hm, c0, c1, c2, c3, c4, c5, t0, t1, t2, t3, t4, t5, t6⟩ := h
  clear h1 h2 h3 h4 hm c1 c2 c3 c4 c5 t0 t1 t2 t3 t4 t5 t6
  go_enter Try.func31, Try.ntmps31
  go_wp2
  go_ret
  exact ⟨rfl, rfl⟩
theorem idxNil (w : World) :
    Calls Try.prog 31 #[.pointer none] w fun e w' => e = .returned (.bool false) ∧ w = w' := by
  go_enter Try.func31, Try.ntmps31
  go_wp2
  go_ret
  exact ⟨rfl, rfl⟩

theorem idxDocs (b : Nat) (s sa st : List Nat) (w : World) (h : IsIdx w b s sa st) (hst : 0 < st.length) :
    Calls Try.prog 17 #[.pointer (some ⟨b, 0, none⟩)] w fun e w' => e = .returned (.int .i64 ((st.length - 1 : Nat) : Int)) ∧ w = w' := by
  have H := Lib.hid h
  obtain ⟨h1, h2, h3, h4, bt, bl, bm, bp, br, wd, m, vs, f, hm, c0, c1, c2, c3, c4, c5, t0, t1, t2, t3, t4, t5, t6⟩ := h
  obtain ⟨ao, cap, rfl, hlc, hcm⟩ := t2.form
  rw [nats_length] at c2 hlc
  obtain ⟨k, hk⟩ : ∃ k, st.length = k := ⟨_, rfl⟩
  rw [hk] at c2 hlc hst ⊢
  clear h1 h2 h3 h4 hm c0 c1 c3 c4 c5 t0 t1 t2 t3 t4 t5 t6 hk
  go_enter Try.func17, Try.ntmps17
  go_wp2_with (go_at_call 31; refine (idxWhole b s sa st _ H.out).mono ?_; rintro e w' ⟨rfl, rfl⟩)
  go_ret
  exact ⟨ret_int (by omega), rfl⟩
theorem idxDocsNil (w : World) :
    Calls Try.prog 17 #[.pointer none] w fun e w' => e = .returned (.int .i64 0) ∧ w = w' := by
  go_enter Try.func17, Try.ntmps17
  go_wp2_with (go_at_call 31; refine (idxNil _).mono ?_; rintro e w' ⟨rfl, rfl⟩)
  go_ret
  exact ⟨rfl, rfl⟩

/-- Len of a text that there is -/
theorem idxLen (b : Nat) (s sa st : List Nat) (w : World) (d : Nat) (h : IsIdx w b s sa st) (hd : d + 1 < st.length) (h1 : st.getD d 0 < st.getD (d + 1) 0) (h2 : st.getD (d + 1) 0 ≤ 65536) (hl : st.length ≤ 65536) :
    Calls Try.prog 14 #[.pointer (some ⟨b, 0, none⟩), .int .i64 d] w fun e w' => e = .returned (.int .i64 ((st.getD (d + 1) 0 - st.getD d 0 - 1 : Nat) : Int)) ∧ ∃ m, w' = w.drewN m := by
  have H := Lib.hid h
  obtain ⟨_, _, _, _, bt, bl, bm, bp, br, wd, m, vs, f, hm, c0, c1, c2, c3, c4, c5, t0, t1, t2, t3, t4, t5, t6⟩ := h
  obtain ⟨bb, off, cap, rfl, hlc, hcm, hc⟩ := t2.full (by simp; omega)
  rw [nats_length] at c2 hlc
  have x1 := hc d _ (nats_get st d (by omega))
  have x2 := hc (d + 1) _ (nats_get st (d + 1) hd)
  rw [show st[d]'(by omega) = st.getD d 0 by rw [List.getD_eq_getElem?_getD, List.getElem?_eq_getElem (by omega)]; rfl] at x1
  rw [show st[d + 1] = st.getD (d + 1) 0 by rw [List.getD_eq_getElem?_getD, List.getElem?_eq_getElem hd]; rfl] at x2
  generalize st.getD d 0 = p at x1 h1 ⊢
  generalize st.getD (d + 1) 0 = q at x2 h1 h2 ⊢
  obtain ⟨k, hk⟩ : ∃ k, st.length - 1 = k := ⟨_, rfl⟩
  have hdocs := idxDocs b s sa st w H.out (by omega)
  rw [hk] at hdocs
  have hdk : ¬ (k : Int) ≤ (d : Int) := by omega
  have HD := Lib.hid hdocs
  obtain ⟨L, hL⟩ : ∃ L, st.length = L := ⟨_, rfl⟩
  rw [hL] at c2 hlc hd hl
  clear hm c0 c1 c3 c4 c5 t0 t1 t2 t3 t4 t5 t6 hc hdocs hk hL
  have d1 : decide (((d : Nat) : Int) < 0) = false := by simp
  have d2 : decide (k ≤ d) = false := decide_eq_false (by omega)
  go_enter Try.func14, Try.ntmps14
  go_wp2_with (go_at_call 17; refine HD.out.mono ?_; rintro e w' ⟨rfl, rfl⟩)
  have i1 : (0 : Int) ≤ (d : Int) + 1 := by omega
  have i2 : ((d : Int) + 1).toNat = d + 1 := by omega
  have i3 : (d : Int) + 1 < (L : Int) := by omega
  have s2 : IntKind.i64.wrap ((q : Int) - p) = (q : Int) - p := IntWalk.i64_in _ (by omega)
  have s3 : IntKind.i64.wrap ((q : Int) - p - 1) = (q : Int) - p - 1 := IntWalk.i64_in _ (by omega)
  have s1 : IntKind.i64.wrap ((d : Int) + 1) = (d : Int) + 1 := IntWalk.i64_in _ (by omega)
  go_quiet (fail)
  clear s1 s2 s3
  go_wp2
  go_ret
  exact ⟨ret_int (by omega), _, rfl⟩

set_option maxHeartbeats 1000000 in
/-- one symbol ahead -/
theorem idxAhead (b : Nat) (s sa st : List Nat) (w : World) (q i j : Nat) (h : IsIdx w b s sa st) (hq : q + 1 < s.length) (hi : rk sa (q + 1) = i) (hj : rk sa q = j) :
    Calls Try.prog 30 #[.pointer (some ⟨b, 0, none⟩), .int .i64 i] w fun e w' => e = .returned (.int .i64 j) ∧ Below w.heap.size w w' := by
  obtain ⟨h1, h2, h3, h4, bt, bl, bm, bp, br, wd, m, vs, f, hm, c0, c1, c2, c3, c4, c5, t0, t1, t2, t3, t4, t5, t6⟩ := h
  obtain ⟨g1, g2, g3⟩ := ahead_rk h1 h2 hq
  have hil := rk_lt h1 hq
  rw [hi] at g1 g3 hil
  rw [hj] at g3
  have hx : s.getD q 0 < 258 := by
    rw [List.getD_eq_getElem?_getD, List.getElem?_eq_getElem (show q < s.length by omega)]
    exact h4 _ (List.getElem_mem _)
  generalize s.getD q 0 = x at g1 g2 g3 hx
  have hg : (turnedOf s sa)[i]? = some x := by
    have hl : i < (turnedOf s sa).length := by rw [turnedOf_length h1]; exact hil
    rw [← g1, List.getD_eq_getElem?_getD, List.getElem?_eq_getElem hl]; rfl
  have xc := t1.cell (i := x) (by omega)
  rw [lessN_turned h1 h2.1] at xc
  rw [goes] at g3
  have T1 := fun W (hB : Below w.heap.size w W) => treeGet bt 9 x i (turnedOf s sa) W (t0.below hB) (by omega) (by rw [Int.toNat_natCast]; exact hg)
  have T2 := fun W (hB : Below w.heap.size w W) => treeRank bt 9 x i (turnedOf s sa) W (t0.below hB) (by omega) (by rw [turnedOf_length h1]; omega) (by omega)
  simp only [Int.toNat_natCast] at T2
  have hjl : j < s.length := by rw [← hj]; exact rk_lt h1 (by omega)
  generalize lessN s x = y at xc g3
  generalize List.count x (List.take i (turnedOf s sa)) = z at g3 T2
  have G1 := Lib.hid T1
  have G2 := Lib.hid T2
  have G3 := Lib.hid g3
  have s1 : IntKind.i64.wrap ((y : Int) + z) = (y : Int) + z := IntWalk.i64_in _ (by omega)
  clear h1 h2 h4 hm c2 c3 c4 c5 t0 t1 t2 t3 t4 t5 t6 g1 hi hj hg T1 T2 g3 hjl
  go_enter Try.func30, Try.ntmps30
  go_wp2_with (go_at_call 29; refine (G1.out _ (Below.refl _ _)).mono ?_; rintro e w1 ⟨rfl, hB⟩
               have d0 := cell_below hB c0
               have d1 := cell_below hB c1
               have d2 := cell_below hB xc)
  have x0 := Later.cell d0
  have x1 := Later.cell d1
  have x2 := Later.cell d2
  refine wp_region_later (by kernel_rfl) (by kernel_rfl) ?_
  repeat (go_big_quiet_step ((go_at_call 40; exact later_call (G2.out _ (below_up hB (Subtype.property _) hB.size)))))
  refine wpQuiet_nil ?_
  rintro _ ⟨⟨w2, hb2⟩, rfl⟩
  clear x0 x1 x2 s1
  go_wp2
  go_ret
  exact ⟨ret_int (by rw [← G3.out]; simp), below_up hB hb2 hB.size⟩
end Go.Proofs.Ythgnapngjmgkcaa
