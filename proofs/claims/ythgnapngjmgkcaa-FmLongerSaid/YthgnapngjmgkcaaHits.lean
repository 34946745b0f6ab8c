import Derived.Test.YthgnapngjmgkcaaShelf
import Derived.Test.YthgnapngjmgkcaaStage
import Derived.Test.YthgnapngjmgkcaaFmT
import Derived.Test.YthgnapngjmgkcaaWd
import Derived.Test.YthgnapngjmgkcaaBits3
import Derived.Sort.OwnSorted
/- Places in texts, sorted: the closure of Locate, cmp.Or, slices.SortFunc. -/
namespace Go.Proofs.Ythgnapngjmgkcaa
open Go.RowKit Go.Shelf Go.Lib Go.Sort

theorem cmpOr (w : World) (b : Nat) (cx cy : Int) (h0 : w.cell? ⟨b, 0, none⟩ = some (.int .i64 cx)) (h1 : w.cell? ⟨b, 1, none⟩ = some (.int .i64 cy)) :
    Calls Try.prog 26 #[.slice (some ⟨b, 0, none⟩) 2 2] w fun e w' => e = .returned (.int .i64 (if cx = 0 then cy else cx)) ∧ w = w' := by
  go_enter Try.func26, Try.ntmps26
  go_wp2
  go_loop [8] (fun tk => ∃ k : Nat, k ≤ 2 ∧ (1 ≤ k → cx = 0) ∧ (2 ≤ k → cy = 0) ∧ tk = .int .i64 k) (fun tk => 2 - (intOf tk).toNat)
  case atStart => exact ⟨0, by omega, fun h => by omega, fun h => by omega, rfl⟩
  case round =>
    obtain ⟨k, hk, q1, q2, rfl⟩ := hrel
    rcases (by omega : k = 0 ∨ k = 1 ∨ k = 2) with rfl | rfl | rfl
    · by_cases h : cx = 0
      · subst h
        go_wp2
        go_round
        case rel => exact ⟨1, by omega, by simp, fun h => by omega, rfl⟩
        case measure => simp [intOf]
      · have t : (cx == 0) = false := beq_eq_false_iff_ne.2 h
        have t2 : (cx != 0) = true := bne_iff_ne.2 h
        go_wp2
        go_ret
        exact ⟨rfl, rfl⟩
    · obtain rfl := q1 (Nat.le_refl _)
      by_cases h : cy = 0
      · subst h
        go_wp2
        go_round
        case rel => exact ⟨2, by omega, by simp, by simp, rfl⟩
        case measure => simp [intOf]
      · have t : (cy == 0) = false := beq_eq_false_iff_ne.2 h
        have t2 : (cy != 0) = true := bne_iff_ne.2 h
        go_wp2
        go_ret
        exact ⟨rfl, rfl⟩
    · obtain rfl := q1 (by omega)
      obtain rfl := q2 (by omega)
      go_wp2
      go_ret
      exact ⟨rfl, rfl⟩

def encHit (x : Int × Int) : List Value := [.int .i64 x.1, .int .i64 x.2]
def cfH (x y : Int × Int) : Int := if Lib.compareInt x.1 y.1 = 0 then Lib.compareInt x.2 y.2 else Lib.compareInt x.1 y.1
set_option maxHeartbeats 1000000 in
theorem hitLess (x y : Int × Int) (W : World) : Calls Try.prog 25 #[.agg #[.int .i64 x.1, .int .i64 x.2], .agg #[.int .i64 y.1, .int .i64 y.2]] W fun e w' => e = .returned (.int .i64 (cfH x y)) ∧ ∃ q os', w' = grow (W.drewN q) os' := by
  obtain ⟨x1, x2⟩ := x
  obtain ⟨y1, y2⟩ := y
  have C1 := fun W' => Try.cmp_Compare_int x1 y1 W'
  have C2 := fun W' => Try.cmp_Compare_int x2 y2 W'
  show Calls Try.prog 25 #[.agg #[.int .i64 x1, .int .i64 x2], .agg #[.int .i64 y1, .int .i64 y2]] W fun e w' => e = .returned (.int .i64 (if Lib.compareInt x1 y1 = 0 then Lib.compareInt x2 y2 else Lib.compareInt x1 y1)) ∧ ∃ q os', w' = grow (W.drewN q) os'
  generalize Lib.compareInt x1 y1 = r1 at C1 ⊢
  generalize Lib.compareInt x2 y2 = r2 at C2 ⊢
  obtain ⟨r, hr⟩ : ∃ r, (if r1 = 0 then r2 else r1) = r := ⟨_, rfl⟩
  rw [hr]
  have HR := Lib.hid hr
  clear hr
  have T := two_blocks W (.cells #[.int .i64 x1, .int .i64 x2] 36) (.cells #[.int .i64 y1, .int .i64 y2] 36)
  obtain ⟨W2, hW2⟩ : ∃ W2, (W.alloc (.cells #[.int .i64 x1, .int .i64 x2] 36)).alloc (.cells #[.int .i64 y1, .int .i64 y2] 36) = W2 := ⟨_, rfl⟩
  rw [hW2] at T
  obtain ⟨T1, T2⟩ := T
  have a1 := (cell_heap (o := 0) T1).trans rfl
  have a2 := (cell_heap (o := 1) T1).trans rfl
  have a3 := (cell_heap (o := 0) T2).trans rfl
  have a4 := (cell_heap (o := 1) T2).trans rfl
  have hsz : W2.heap.size = W.heap.size + 1 + 1 := by rw [← hW2]; simp
  go_enter Try.func25, Try.ntmps25
  go_wp2
  have HW2 := Lib.hid hW2
  have HSZ := Lib.hid hsz
  clear hW2 hsz T1 T2
  have hS : Cells4 ⟨W.heap.size, 0, none⟩ ⟨W.heap.size, 1, none⟩ ⟨W.heap.size + 1, 0, none⟩ ⟨W.heap.size + 1, 1, none⟩ (.int .i64 x1) (.int .i64 x2) (.int .i64 y1) (.int .i64 y2) W2.drew := ⟨a1, a2, a3, a4⟩
  refine wp_region_stages (Cells4 ⟨W.heap.size, 0, none⟩ ⟨W.heap.size, 1, none⟩ ⟨W.heap.size + 1, 0, none⟩ ⟨W.heap.size + 1, 1, none⟩ (.int .i64 x1) (.int .i64 x2) (.int .i64 y1) (.int .i64 y2)) [([true, true, true, true, false, true, true, true, true], [false, false, false, false, true, false, false, false, false, true, true, true])] [false, false, false, false, false, false, false, false, false, false, false, false, true] (by kernel_rfl) (by kernel_rfl) (fun _ _ d _ _ h => by cases d <;> exact h) ?_
  simp only [wpStages, selM]
  refine ⟨hS, ?_⟩
  have hne := meets_ne hS
  have y0 := Cells4.e1 (a := ⟨W.heap.size, 0, none⟩) (b := ⟨W.heap.size, 1, none⟩) (c := ⟨W.heap.size + 1, 0, none⟩) (d := ⟨W.heap.size + 1, 1, none⟩) (u := .int .i64 x1) (v := .int .i64 x2) (y := .int .i64 y1) (z := .int .i64 y2)
  have y1' := Cells4.e2 (a := ⟨W.heap.size, 0, none⟩) (b := ⟨W.heap.size, 1, none⟩) (c := ⟨W.heap.size + 1, 0, none⟩) (d := ⟨W.heap.size + 1, 1, none⟩) (u := .int .i64 x1) (v := .int .i64 x2) (y := .int .i64 y1) (z := .int .i64 y2)
  have y2' := Cells4.e3 (a := ⟨W.heap.size, 0, none⟩) (b := ⟨W.heap.size, 1, none⟩) (c := ⟨W.heap.size + 1, 0, none⟩) (d := ⟨W.heap.size + 1, 1, none⟩) (u := .int .i64 x1) (v := .int .i64 x2) (y := .int .i64 y1) (z := .int .i64 y2)
  have y3' := Cells4.e4 (a := ⟨W.heap.size, 0, none⟩) (b := ⟨W.heap.size, 1, none⟩) (c := ⟨W.heap.size + 1, 0, none⟩) (d := ⟨W.heap.size + 1, 1, none⟩) (u := .int .i64 x1) (v := .int .i64 x2) (y := .int .i64 y1) (z := .int .i64 y2)
  repeat (go_big_quiet_step (fail))
  refine wpQuiet_nil ?_
  clear y0 y1' y2' y3' hne
  refine pre_cons ?_
  go_wp2_with (go_at_call 27; refine (C1 _).mono ?_; rintro e w1 ⟨rfl, rfl⟩)
  refine mid_normal ⟨hS, pre_cons ?_⟩
  go_wp2_with (go_at_call 27; refine (C2 _).mono ?_; rintro e w1 ⟨rfl, rfl⟩)
  refine mid_normal ⟨hS, pre_cons ?_⟩
  go_wp2
  have hA : Below W2.heap.size W2 (W2.alloc (.cells #[.int .i64 r1, .int .i64 r2] 3)).drew := ((Below.refl _ _).alloc (Nat.le_refl _) _).drew
  have hS2 : Cells4 ⟨W.heap.size, 0, none⟩ ⟨W.heap.size, 1, none⟩ ⟨W.heap.size + 1, 0, none⟩ ⟨W.heap.size + 1, 1, none⟩ (.int .i64 x1) (.int .i64 x2) (.int .i64 y1) (.int .i64 y2) (W2.alloc (.cells #[.int .i64 r1, .int .i64 r2] 3)).drew :=
    ⟨cell_below hA a1, cell_below hA a2, cell_below hA a3, cell_below hA a4⟩
  have HS2 := Lib.hid hS2
  have hn := World.alloc_heap_new W2 (.cells #[.int .i64 r1, .int .i64 r2] 3)
  have k1 := (cell_heap (o := 0) hn).trans rfl
  have k2 := (cell_heap (o := 1) hn).trans rfl
  clear hS hS2 a1 a2 a3 a4 hn
  refine mid_normal ⟨HS2.out, pre_cons ?_⟩
  have ho := cmpOr (W2.alloc (.cells #[.int .i64 r1, .int .i64 r2] 3)).drew W2.heap.size r1 r2 k1 k2
  rw [HR.out] at ho
  have HO := Lib.hid ho
  clear k1 k2 ho
  go_wp2_with (go_at_call 26; refine HO.out.mono ?_; rintro e w1 ⟨rfl, rfl⟩)
  refine mid_normal ⟨HS2.out, pre_nil ?_⟩
  go_wp2
  go_ret
  refine ⟨rfl, 1, #[.cells #[.int .i64 x1, .int .i64 x2] 36 (0, 0), .cells #[.int .i64 y1, .int .i64 y2] 36 (0, 0), .cells #[.int .i64 r1, .int .i64 r2] 3 (0, 0)], ?_⟩
  rw [← HW2.out, alloc_eq_grow, alloc_eq_grow, alloc_eq_grow, grow_grow, grow_grow]
  rfl

def zh (h : Nat × Nat) : Int × Int := ((h.1 : Int), (h.2 : Int))
theorem ltH (x y : Int × Int) : ltOf cfH x y = decide (x.1 < y.1 ∨ x.1 = y.1 ∧ x.2 < y.2) := by
  unfold ltOf cfH Lib.compareInt
  rcases Int.lt_trichotomy x.1 y.1 with h | h | h
  · simp [h]
  · have : ¬ x.1 < y.1 := by omega
    have h2 : ¬ y.1 < x.1 := by omega
    simp only [this, h2, if_false, if_true, false_or]
    rcases Int.lt_trichotomy x.2 y.2 with k | k | k
    · simp [h, k]
    · simp [h, k]
    · have : ¬ x.2 < y.2 := by omega
      simp [h, this, k]
  · have : ¬ x.1 < y.1 := by omega
    have h2 : ¬ x.1 = y.1 := by omega
    simp [this, h2, h]
theorem swoH : SWO (ltOf cfH) where
  irrefl x := by rw [ltH]; simp
  trans x y z h1 h2 := by rw [ltH] at *; simp at *; omega
  ntrans x y z h1 h2 := by rw [ltH] at *; simp at *; omega
theorem totH (x y : Int × Int) (h1 : ltOf cfH x y = false) (h2 : ltOf cfH y x = false) : x = y := by
  rw [ltH] at h1 h2
  simp at h1 h2
  exact Prod.ext (by omega) (by omega)
theorem sorted_hits {l H : List (Nat × Nat)} (hp : l.Perm H) (hs : H.Pairwise hitLt) : (l.map zh).mergeSort (fun x y => !(ltOf cfH) y x) = H.map zh := by
  refine List.Perm.eq_of_pairwise (le := fun x y => (!(ltOf cfH) y x) = true) (fun a b _ _ h1 h2 => totH a b (by simpa using h2) (by simpa using h1)) ?_ ?_ ((List.mergeSort_perm _ _).trans (hp.map zh))
  · refine List.pairwise_mergeSort (fun a b c h1 h2 => ?_) (fun a b => ?_) _
    · rw [ltH] at *; simp at *; omega
    · rw [ltH, ltH]; simp; omega
  · rw [List.pairwise_map]
    refine hs.imp fun {a b} h => ?_
    rw [ltH]
    unfold zh
    rcases h with h | h <;> simp <;> omega

/-- the slice value v reads as places -/
def HitSl (w : World) (v : Value) (l : List (Nat × Nat)) : Prop :=
  ∃ ao cap, v = .slice ao l.length cap ∧ l.length ≤ cap ∧ cap ≤ 9223372036854775807 ∧ (l ≠ [] → ∃ b off, ao = some ⟨b, off, none⟩ ∧ ∀ i h, l[i]? = some h → w.cell? ⟨b, off + i * 2, none⟩ = some (.int .i64 (h.1 : Nat)) ∧ w.cell? ⟨b, off + i * 2 + 1, none⟩ = some (.int .i64 (h.2 : Nat)))
def hitCells (l : List (Nat × Nat)) : List Value := l.flatMap fun h => [.int .i64 (h.1 : Nat), .int .i64 (h.2 : Nat)]
theorem hitCells_length (l : List (Nat × Nat)) : (hitCells l).length = l.length * 2 := by
  induction l with
  | nil => rfl
  | cons a l ih => simp [hitCells] at ih ⊢; omega
theorem hitCells_snoc (l : List (Nat × Nat)) (h : Nat × Nat) : hitCells (l ++ [h]) = hitCells l ++ [.int .i64 (h.1 : Nat), .int .i64 (h.2 : Nat)] := by simp [hitCells]
theorem hitCells_get (l : List (Nat × Nat)) (i : Nat) (h : i < l.length) : (hitCells l)[i * 2]? = some (.int .i64 (l[i].1 : Nat)) ∧ (hitCells l)[i * 2 + 1]? = some (.int .i64 (l[i].2 : Nat)) := by
  induction l generalizing i with
  | nil => simp at h
  | cons a l ih =>
    have e : hitCells (a :: l) = .int .i64 (a.1 : Nat) :: .int .i64 (a.2 : Nat) :: hitCells l := by simp [hitCells]
    rw [e]
    cases i with
    | zero => simp
    | succ i =>
      have := ih i (by simpa using h)
      rw [show (i + 1) * 2 = i * 2 + 1 + 1 by omega]
      simpa using this
/-- cells that hold places: held in the sort's words -/
theorem holds_hits {w : World} {b off : Nat} {l : List (Nat × Nat)} (h : ∀ j x, (hitCells l)[j]? = some x → w.cell? ⟨b, off + j, none⟩ = some x) (hf : ∀ j, w.frozen? ⟨b, j, none⟩ = false) : HoldsK encHit 2 w b off (l.map zh).toArray := by
  intro t ht
  have ht' : t < l.length * 2 := by simpa using ht
  refine ⟨?_, hf _⟩
  rw [get_flatK _ _ _ _ (by simpa using ht')]
  have hi : t / 2 < l.length := by omega
  obtain ⟨g1, g2⟩ := hitCells_get l (t / 2) hi
  have e0 : (l.map zh).toArray[t / 2]! = zh l[t / 2] := by rw [getElem!_pos _ _ (by simpa using hi)]; simp
  rw [e0]
  rcases Nat.mod_two_eq_zero_or_one t with e | e
  · rw [e, show off + t = off + (t / 2 * 2) by omega]
    exact h _ _ g1
  · rw [e, show off + t = off + (t / 2 * 2 + 1) by omega]
    exact h _ _ g2
theorem hits_holds {w : World} {b off : Nat} {l : List (Nat × Nat)} (h : HoldsK encHit 2 w b off (l.map zh).toArray) : ∀ i x, l[i]? = some x → w.cell? ⟨b, off + i * 2, none⟩ = some (.int .i64 (x.1 : Nat)) ∧ w.cell? ⟨b, off + i * 2 + 1, none⟩ = some (.int .i64 (x.2 : Nat)) := by
  intro i x hx
  obtain ⟨hi, rfl⟩ := List.getElem?_eq_some_iff.1 hx
  have e0 : (l.map zh).toArray[i]! = zh l[i] := by rw [getElem!_pos _ _ (by simpa using hi)]; simp
  have a := (h (i * 2) (by simp; omega)).1
  have b := (h (i * 2 + 1) (by simp; omega)).1
  rw [get_flatK _ _ _ _ (by simp; omega)] at a b
  rw [show i * 2 / 2 = i by omega, show i * 2 % 2 = 0 by omega, e0] at a
  rw [show (i * 2 + 1) / 2 = i by omega, show (i * 2 + 1) % 2 = 1 by omega, e0] at b
  exact ⟨a, b⟩

theorem entersLess : ∀ args w, (callFunc 25 args).run Try.prog w = .ok (.enter 25 args) w := enters_of Try.func25 (by kernel_rfl) rfl
/-- slices.SortFunc at places of a block of one's own -/
theorem sortHits (w : World) (b cap : Nat) (l H : List (Nat × Nat)) (h0 : 0 < l.length) (hl : l.length ≤ 65536) (hp : l.Perm H) (hs : H.Pairwise hitLt) (hc : ∀ j x, (hitCells l)[j]? = some x → w.cell? ⟨b, j, none⟩ = some x) (hf : ∀ j, w.frozen? ⟨b, j, none⟩ = false) :
    Calls Try.prog 24 #[.slice (some ⟨b, 0, none⟩) l.length cap, .func (.func 25) #[] #[]] w fun e w' =>
      e = .returned (.tuple #[]) ∧ (∀ i x, H[i]? = some x → w'.cell? ⟨b, 0 + i * 2, none⟩ = some (.int .i64 (x.1 : Nat)) ∧ w'.cell? ⟨b, 0 + i * 2 + 1, none⟩ = some (.int .i64 (x.2 : Nat))) ∧ Keeps (· = b) w w' := by
  have hH : HoldsK encHit 2 w b 0 (l.map zh).toArray := holds_hits (by simpa using hc) hf
  have hb : b < w.heap.size := World.block_lt_of_cell? w _ (hc 0 _ (hitCells_get l 0 h0).1)
  have hcon := AnyQ.slices_SortFunc_total Try.sortHit 2 Try.isAgg36 Try.sizeOf36 encHit (fun _ => rfl) (fun x v hv => by simp [encHit] at hv; rcases hv with rfl | rfl <;> rfl) cfH swoH 25 #[] b 0 cap (l.map zh).toArray w entersLess
    (fun _ _ _ _ x y => hitLess x y _) hH hb (by simp; omega) totH
  have hsz : (l.map zh).toArray.size = l.length := by simp
  rw [hsz] at hcon
  refine Calls.mono hcon ?_
  rintro e w' ⟨rfl, n, os, rfl⟩
  have hst : ((l.map zh).toArray.toList.mergeSort fun x y => !(ltOf cfH) y x) = H.map zh := sorted_hits hp hs
  rw [hst]
  have hlen : H.length = l.length := hp.length_eq.symm
  refine ⟨rfl, hits_holds (holdsK_sortWorldK encHit 2 w b 0 n (l.map zh).toArray _ os hb hH (by simp [hlen])), ?_⟩
  refine ⟨rfl, rfl, rfl, by simp [sortWorldK, putRowK], fun k hk hne => ?_⟩
  unfold sortWorldK putRowK
  rw [heap_grow_old _ _ (by simpa using hk)]
  have : b ≠ k := fun e => hne e.symm
  simp [putRow, mapBlock, Sort.ahead, Array.getElem?_modify, this]
end Go.Proofs.Ythgnapngjmgkcaa
