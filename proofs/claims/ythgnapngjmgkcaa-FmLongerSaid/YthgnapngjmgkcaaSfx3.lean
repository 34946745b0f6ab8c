import Derived.Test.YthgnapngjmgkcaaSfxD
/- Package suffix: Array: the walk. -/
namespace Go.Proofs.Ythgnapngjmgkcaa
open Go.RowKit

theorem three_blocks (w : World) (o0 o1 o2 : Obj) : (((w.alloc o0).alloc o1).alloc o2).heap[w.heap.size]? = some o0 ∧ (((w.alloc o0).alloc o1).alloc o2).heap[w.heap.size + 1]? = some o1 ∧ (((w.alloc o0).alloc o1).alloc o2).heap[w.heap.size + 1 + 1]? = some o2 := by
  simp only [World.alloc, Array.getElem?_push, Array.size_push]
  refine ⟨?_, ?_, ?_⟩
  · rw [if_neg (by omega), if_neg (by omega), if_pos trivial]
  · rw [if_neg (by omega), if_pos trivial]
  · rw [if_pos trivial]
theorem below_three (w : World) (o0 o1 o2 : Obj) : Below w.heap.size w (((w.alloc o0).alloc o1).alloc o2) := (((Below.refl _ _).alloc (Nat.le_refl _) _).alloc (by simp) _).alloc (by simp; omega) _
theorem nums_zero {W : World} {b n : Nat} (h : W.heap[b]? = some (.cells (madeCells #[.int .i64 0] n) 3 (0, 0))) : Nums W b n (fun _ => 0) :=
  ⟨_, h, size_madeCells _ _, fun i hi => by simp [madeCells, hi, Nat.mod_one]⟩
theorem RowAt.keeps {W W' : World} {b : Nat} {l : List Nat} {S : Nat → Prop} (h : RowAt W b l) (hk : Keeps S W W') (hn : ¬ S b) (hb : b < W.heap.size) : RowAt W' b l :=
  ⟨fun j x hx => hk.cell (h.1 j x hx) hn, fun j => (World.frozen?_of_block (a := ⟨b, j, none⟩) (hk.block b hb hn)).trans (h.2 j)⟩

/-- the key of the second half, as the program says it -/
theorem sufSecond (w : World) (bk b6 b8 br n k i : Nat) (r : Nat → Nat) (h1 : w.cell? ⟨bk, 0, none⟩ = some (.int .i64 k)) (h2 : w.cell? ⟨b6, 0, none⟩ = some (.int .i64 n)) (h3 : w.cell? ⟨b8, 0, none⟩ = some (.slice (some ⟨br, 0, none⟩) n n)) (h4 : Nums w br n r) (hi : i < n) (hn : n ≤ 65536) (hk : k ≤ 131072) :
    Calls Try.prog 54 #[.int .i64 i, .pointer (some ⟨bk, 0, none⟩), .pointer (some ⟨b6, 0, none⟩), .pointer (some ⟨b8, 0, none⟩)] w fun e w' => e = .returned (.int .i64 (if i + k < n then (r (i + k) : Int) else -1)) ∧ w = w' := by
  by_cases h : i + k < n
  · have c := h4.cell h
    go_enter Try.func54, Try.ntmps54
    go_wp2
    go_ret
    exact ⟨rfl, rfl⟩
  · go_enter Try.func54, Try.ntmps54
    go_wp2
    go_ret
    exact ⟨rfl, rfl⟩
def kOf (tp : Value) (w : World) : Nat := match tp with
  | .pointer (some a) => (match w.cell? a with | some v => (intOf v).toNat | none => 0)
  | _ => 0
/-- the variables of Array's main loop -/
def Vars (W : World) (n b6 b8 bs bt br bn bk k : Nat) (sa : List Nat) (r g h : Nat → Nat) : Prop :=
  W.heap[b6]? = some (.cells #[.int .i64 n] 3 (0, 0)) ∧ W.heap[b8]? = some (.cells #[.slice (some ⟨br, 0, none⟩) n n] 43 (0, 0)) ∧ W.heap[bk]? = some (.cells #[.int .i64 k] 3 (0, 0)) ∧
    Nums W br n r ∧ Nums W bn n g ∧ Nums W bs n h ∧ Nums W bt n (fun i => sa.getD i 0)
theorem Vars.swap {W : World} {n b6 b8 bs bt br bn bk k m : Nat} {sa : List Nat} {r g h : Nat → Nat} (hv : Vars W n b6 b8 bs bt br bn bk k sa r g h) (d1 : b6 ≠ b8) (d2 : bs ≠ b8) (d3 : bt ≠ b8) (d4 : br ≠ b8) (d5 : bn ≠ b8) :
    Vars (((W.setCell ⟨b8, 0, none⟩ (.slice (some ⟨bn, 0, none⟩) n n)).drewN m).alloc (.cells #[.int .i64 ((k : Int) * 2)] 3)) n b6 b8 bs bt bn br W.heap.size (k + k) sa g r h := by
  obtain ⟨h1, h2, h3, h4, h5, h6, h7⟩ := hv
  have hA : Below ((W.setCell ⟨b8, 0, none⟩ (.slice (some ⟨bn, 0, none⟩) n n)).drewN m).heap.size ((W.setCell ⟨b8, 0, none⟩ (.slice (some ⟨bn, 0, none⟩) n n)).drewN m) (((W.setCell ⟨b8, 0, none⟩ (.slice (some ⟨bn, 0, none⟩) n n)).drewN m).alloc (.cells #[.int .i64 ((k : Int) * 2)] 3)) := (Below.refl _ _).alloc (Nat.le_refl _) _
  have l1 : b6 < W.heap.size := (Array.getElem?_eq_some_iff.1 h1).1
  have l2 : b8 < W.heap.size := (Array.getElem?_eq_some_iff.1 h2).1
  refine ⟨(hA.block b6 (by simpa using l1)).trans ?_, (hA.block b8 (by simpa using l2)).trans ?_, ?_, ((h5.setOther (a := ⟨b8, 0, none⟩) d5 _).drewN m).below hA, ((h4.setOther (a := ⟨b8, 0, none⟩) d4 _).drewN m).below hA, ((h6.setOther (a := ⟨b8, 0, none⟩) d2 _).drewN m).below hA, ((h7.setOther (a := ⟨b8, 0, none⟩) d3 _).drewN m).below hA⟩
  · rw [World.heap_drewN, Below.heap_setCell _ _ _ _ d1]; exact h1
  · rw [World.heap_drewN]; simp [World.setCell, Array.getElem?_modify, h2]
  · have := heap_alloc_new ((W.setCell ⟨b8, 0, none⟩ (.slice (some ⟨bn, 0, none⟩) n n)).drewN m) (.cells #[.int .i64 ((k : Int) * 2)] 3)
    rw [show ((k + k : Nat) : Int) = (k : Int) * 2 by omega]
    simpa using this
/-- what they say -/
def Sorted (s : List Nat) (n many k : Nat) (sa : List Nat) (r : Nat → Nat) : Prop :=
  Ranks s k r ∧ Dense n many r ∧ sa.Perm (List.range n) ∧ sa.Pairwise (fun a b => r a ≤ r b) ∧ 1 ≤ k

set_option maxRecDepth 100000 in
set_option maxHeartbeats 40000000 in
theorem sufArray (w : World) (v : Value) (s : List Nat) (h0 : 0 < s.length) (hs : s.length ≤ 65536) (hv : Sl w v (nats s)) :
    Calls Try.prog 33 #[v] w (ArrayOk w s) := by
  obtain ⟨n, hn⟩ : ∃ n, s.length = n := ⟨_, rfl⟩
  obtain ⟨b, off, cap, rfl, hlc, hcm, hc⟩ := hv.full (by simpa using h0)
  rw [nats_length] at hlc ⊢
  have hmk := make_int n (by omega)
  have hsl := hv
  rw [nats_length] at hsl
  rw [hn] at hlc h0 hs hsl ⊢
  have HN := Lib.hid hn
  have HC := Lib.hid hc
  have HS := Lib.hid hsl
  clear hn hc hv hsl
  go_enter Try.func33, Try.ntmps33
  go_wp2
  go_loop [29] (fun tk => ∃ k : Nat, k ≤ n ∧ tk = .int .i64 k) (fun tk => n - (intOf tk).toNat)
  case atStart => exact ⟨0, Nat.zero_le _, rfl⟩
  case round =>
    obtain ⟨k, hk, rfl⟩ := hrel
    by_cases hlt : k < n
    · have c := HC.out k _ (nats_get s k (HN.out.symm ▸ hlt))
      go_wp2
      go_round
      case rel => exact ⟨k + 1, by omega, by go_num⟩
      case measure => simp [intOf]; omega
    · obtain rfl : k = n := by omega
      obtain ⟨n, hkn⟩ : ∃ n, n = k := ⟨_, rfl⟩
      subst hkn
      go_wp2_with (first
        | (go_at_call 52; refine (slValues _ _ _ _).mono ?_; rintro e w2 ⟨rfl, rfl⟩)
        | (go_at_call 51; refine (slSorted _ _ _ s (by rw [HN.out]; exact h0) (by rw [HN.out]; exact hs) (by simp) (HS.out.below (below_two _ _ _))).mono ?_; rintro e w2 ⟨b1, cap1, l, rfl, hl1, hl2, hl3, hl4, hl5, hl6⟩)
        | (go_at_call 50; refine (slCompact _ b1 cap1 l (by rw [hl1.length_eq, HN.out]; exact h0) (by rw [hl1.length_eq, HN.out]; exact hs) hl3 hl2 hl5).mono ?_; rintro e w3 ⟨D, rfl, hD1, hD2, hD3, hD4⟩
           have hb1 : w.heap.size + 1 < b1 := by simp at hl4; omega
           have q6 : w3.heap[w.heap.size]? = some (.cells #[.int .i64 n] 3 (0, 0)) := hD4.heap ((hl6.block _ (by simp; omega)).trans (two_blocks _ _ _).1) (by show ¬ w.heap.size = b1; omega)
           have c6 : w3.cell? ⟨w.heap.size, 0, none⟩ = some (.int .i64 n) := (cell_heap q6).trans rfl
           have hB2 : Below w.heap.size w w2 := below_up (below_two _ _ _) hl6 (by simp; omega)
           have hB3 : Below w.heap.size w w3 := hB2.trans (hD4.below (fun i e => by omega) hB2.size)
           have hs3 := hB3.size
           have hlt6 := World.block_lt_of_cell? w3 _ c6
           have hltb : b1 < w3.heap.size := by
             have hlp : 0 < l.length := by rw [hl1.length_eq, HN.out]; exact h0
             have := World.block_lt_of_cell? w2 _ (hl5.1 0 l[0] (List.getElem?_eq_getElem hlp))
             exact Nat.lt_of_lt_of_le this hD4.size))
      obtain ⟨W0, hW0⟩ : ∃ W0, ((w3.alloc (.cells (madeCells #[.int .i64 0] n) 3)).alloc (.cells #[.slice (some ⟨w3.heap.size, 0, none⟩) n n] 43)).alloc (.cells (madeCells #[.int .i64 0] n) 3) = W0 := ⟨_, rfl⟩
      have T := three_blocks w3 (.cells (madeCells #[.int .i64 0] n) 3) (.cells #[.slice (some ⟨w3.heap.size, 0, none⟩) n n] 43) (.cells (madeCells #[.int .i64 0] n) 3)
      have hb0 := below_three w3 (.cells (madeCells #[.int .i64 0] n) 3) (.cells #[.slice (some ⟨w3.heap.size, 0, none⟩) n n] 43) (.cells (madeCells #[.int .i64 0] n) 3)
      rw [hW0] at T hb0 ⊢
      obtain ⟨T1, T2, T3⟩ := T
      have hz : W0.heap.size = w3.heap.size + 3 := by rw [← hW0]; simp
      clear hW0
      have hD1' := Lib.hid hD1
      have hDm : ∀ x, x ∈ D ↔ x ∈ s := fun x => (hD2 x).trans hl1.mem_iff
      obtain ⟨r, hr⟩ := there_is hDm
      obtain ⟨hR, hDn⟩ := first_ranks hD1 hDm hr
      rw [HN.out] at hDn hr
      have hDl := hDn.le
      have N1 := nums_zero T1
      have N3 := nums_zero T3
      have q0 := (hb0.block _ hlt6).trans q6
      have RD := hD3.keeps (Keeps.of_below hb0 (fun _ => False)) (fun h => h) hltb
      have hB0 : Below w.heap.size w W0 := below_up hB3 hb0 hs3
      have HR := Lib.hid hR
      have HDN := Lib.hid hDn
      have HRr := Lib.hid hr
      have HRD := Lib.hid RD
      clear hb0 hD1 hD2 hDm hr hR hDn RD q6 c6 hD3 hD4 hl1 hl2 hl3 hl4 hl5 hl6 T1 T3 hB2 hB3
      obtain ⟨b6, hb6⟩ : ∃ b6, w.heap.size = b6 := ⟨_, rfl⟩
      obtain ⟨br, hbr⟩ : ∃ br, w3.heap.size = br := ⟨_, rfl⟩
      rw [hbr] at N1 N3 T2 hz hltb hlt6 hs3 ⊢
      have HB0 := Lib.hid hB0
      clear hB0
      rw [hb6] at hlt6 hb1 q0 ⊢
      go_loopw [48] (fun tk wr => ∃ (k : Nat) (g h : Nat → Nat), k ≤ n ∧ tk = .int .i64 k ∧ Hid (Nums wr br n g) ∧ Hid (Nums wr (br + 1 + 1) n h) ∧ Hid (∀ i, i < k → g i = r i ∧ h i = i) ∧ Keeps (fun i => i = br ∨ i = br + 1 + 1) W0 wr) (fun tk _ => n - (intOf tk).toNat)
      case atStart => exact ⟨0, _, _, Nat.zero_le _, rfl, N1, N3, fun i hi => by omega, Keeps.refl _ _⟩
      case round =>
        obtain ⟨k, g, h, hk, rfl, hg, hh, he, hK⟩ := hrel
        by_cases hlt : k < n
        · have hks : k < s.length := by rw [HN.out]; exact hlt
          have cs := HC.out k _ (nats_get s k hks)
          have hbl := World.block_lt_of_cell? w _ cs
          have hbl : b < b6 := by rw [← hb6]; exact hbl
          have c := hK.cell (cell_below HB0.out cs) (by show ¬ (b = br ∨ b = br + 1 + 1); omega)
          have hx : s.getD k 0 = s[k] := by rw [List.getD_eq_getElem?_getD, List.getElem?_eq_getElem hks]; rfl
          have hrk := HRr.out k hlt
          rw [hx] at hrk
          generalize s[k] = x at c hrk cs
          have HX := Lib.hid hrk
          clear hx hrk cs
          have c8 := (cell_heap (o := 0) (hK.heap T2 (by show ¬ (br + 1 = br ∨ br + 1 = br + 1 + 1); omega))).trans rfl
          have HRow := Lib.hid (HRD.out.keeps hK (by show ¬ (b1 = br ∨ b1 = br + 1 + 1); omega) (by omega))
          have cg := hg.out.cell hlt
          have cf := hg.out.frozen k
          have ch := hh.out.cell hlt
          have chf := hh.out.frozen k
          go_wp2
          go_region_with (go_at_call 23; refine (slPlace wr.drew b1 cap1 D x (r k) (by omega) hD1'.out HX.out HRow.out).mono ?_; rintro e w' ⟨rfl, q, rfl⟩)
          all_goals
            go_wp2
            go_roundw
            case rel =>
              refine ⟨k + 1, fun j => if j = k then r k else g j, fun j => if j = k then k else h j, by omega, by go_num, ?_, ?_, ?_, ?_⟩
              · exact (hg.out.set k (r k)).setOther (by show br ≠ br + 1 + 1; omega) _
              · exact (hh.out.setOther (a := ⟨br, k, none⟩) (by show br + 1 + 1 ≠ br; omega) _).set k k
              · intro i hi
                show (if i = k then r k else g i) = r i ∧ (if i = k then k else h i) = i
                by_cases e : i = k
                · rw [if_pos e, if_pos e, e]; exact ⟨rfl, rfl⟩
                · rw [if_neg e, if_neg e]; exact he.out i (by omega)
              · exact ((hK.drewN (1 + q)).setCell (a := ⟨br, k, none⟩) (.inl rfl) _).setCell (a := ⟨br + 1 + 1, k, none⟩) (.inr rfl) _
            case measure => simp [intOf]; omega
        · obtain rfl : k = n := by omega
          obtain ⟨n, hkn⟩ : ∃ n, n = k := ⟨_, rfl⟩
          subst hkn
          have hg1 := hg.out.congr (h := r) fun i hi => (he.out i hi).1
          have hh1 := hh.out.congr (h := fun i => i) fun i hi => (he.out i hi).2
          have HG := Lib.hid hg1
          have HH := Lib.hid hh1
          have c6 := (cell_heap (o := 0) (hK.heap q0 (by show ¬ (b6 = br ∨ b6 = br + 1 + 1); omega))).trans rfl
          have q8 := hK.heap T2 (by show ¬ (br + 1 = br ∨ br + 1 = br + 1 + 1); omega)
          have q6 := hK.heap q0 (by show ¬ (b6 = br ∨ b6 = br + 1 + 1); omega)
          have hKs := hK.size
          have HBr : Below b6 w wr := by
            have := HB0.out.trans (hK.below (B := w.heap.size) (fun i e => by rw [hb6]; omega) (by rw [hb6]; omega))
            rwa [hb6] at this
          clear hg hh he hg1 hh1 N1 N3 q0 T2 HRD HRr
          have e6 : ∀ o, (wr.alloc o).cell? ⟨b6, 0, none⟩ = some (.int .i64 n) := fun o => cell_below ((Below.refl _ _).alloc (Nat.le_refl _) o) c6
          go_wp2
          go_upto_region 20 with fail
          go_cut [13, 14] (fun t13 t14 wx => ∃ bt bn, t13 = .slice (some ⟨bt, 0, none⟩) n n ∧ t14 = .slice (some ⟨bn, 0, none⟩) n n ∧ wr.heap.size ≤ bt ∧ wr.heap.size ≤ bn ∧ bt ≠ bn ∧ Hid (Nums wx bt n (fun _ => 0)) ∧ Hid (Nums wx bn n (fun _ => 0)) ∧ Below wr.heap.size wr wx)
          case first =>
            go_region
            all_goals (go_wp2_with fail; go_meet)
            all_goals
              first
                | exact ⟨_, _, rfl, rfl, Nat.le_refl _, Nat.le_succ _, by omega, (nums_zero (two_blocks wr _ _).1).drewN 1, (nums_zero (two_blocks wr _ _).2).drewN 1, below_drewN (below_two wr _ _) 1⟩
                | exact ⟨_, _, rfl, rfl, Nat.le_succ _, Nat.le_refl _, by omega, (nums_zero (two_blocks wr _ _).2).drewN 1, (nums_zero (two_blocks wr _ _).1).drewN 1, below_drewN (below_two wr _ _) 1⟩
          case rest =>
            obtain ⟨bt, bn, rfl, rfl, l1, l2, l3, M1, M2, hBc⟩ := hcut
            clear e6 c6
            have c6 := cell_below hBc ((cell_heap (o := 0) q6).trans rfl)
            have c8 := cell_below hBc ((cell_heap (o := 0) q8).trans rfl)
            have q6 := (hBc.block b6 (by omega)).trans q6
            have q8 := (hBc.block (br + 1) (by omega)).trans q8
            have G1 := HG.out.below hBc
            have G2 := HH.out.below hBc
            have hP : (tabOf n fun i => i).Perm (List.range n) := by rw [show tabOf n (fun i => i) = List.range n by simp [tabOf]]
            go_wp2_with (go_at_call 53; refine (sufByKey _ n D.length (br + 1 + 1) br bt (fun i => i) r (fun _ => 0) G2 G1 M1.out (by omega) (by omega) hs (by omega) HDN.out.1 hP).mono ?_; rintro e w4 ⟨rfl, hs4, hk4⟩)
            rw [show tabOf n (fun i => i) = List.range n by simp [tabOf]] at hs4
            have hso := first_sorted n D.length r HDN.out.1
            have hS : Sorted s n D.length 1 (sortBy D.length r (List.range n)) r := ⟨HR.out, HDN.out, hso.1, hso.2, Nat.le_refl _⟩
            have hBx := hk4.below (B := wr.heap.size) (fun i e => by omega) hBc.size
            have hx4 := hk4.size
            have hxc := hBc.size
            have hA4 : Below w4.heap.size w4 (w4.alloc (.cells #[.int .i64 1] 3)) := (Below.refl _ _).alloc (Nat.le_refl _) _
            have hlt1 := M1.out.lt
            have hlt2 := M2.out.lt
            have hV : Vars (w4.alloc (.cells #[.int .i64 1] 3)) n b6 (br + 1) (br + 1 + 1) bt br bn w4.heap.size 1 (sortBy D.length r (List.range n)) r (fun _ => 0) (fun i => i) :=
              ⟨(hA4.block b6 (by omega)).trans (hk4.heap q6 (by omega)), (hA4.block (br + 1) (by omega)).trans (hk4.heap q8 (by omega)), heap_alloc_new _ _, (G1.keeps hk4 (by omega)).below hA4, (M2.out.keeps hk4 (by omega)).below hA4, (G2.keeps hk4 (by omega)).below hA4, hs4.below hA4⟩
            have hB4 : Below b6 w (w4.alloc (.cells #[.int .i64 1] 3)) := ((HBr.trans (hBc.mono (by omega))).trans (hBx.mono (by omega))).trans (hA4.mono (by omega))
            have HS0 := Lib.hid hS
            have HV0 := Lib.hid hV
            have HB4 := Lib.hid hB4
            have HD1 : D.length ≤ n := HDN.out.le
            have hsz4 : (w4.alloc (.cells #[.int .i64 1] 3)).heap.size = w4.heap.size + 1 := by simp
            clear hS hV hB4 hso hs4 hk4 hBx hA4 HG HH HBr HB0 HDN HR hD1' q6 q8 c6 c8 G1 G2 M1 M2 hP HC HS hBc hK
            obtain ⟨x4, hxx⟩ : ∃ x4, w4.heap.size = x4 := ⟨_, rfl⟩
            rw [hxx] at HV0
            go_wp2
            rw [hxx]
            go_loopw [12, 14, 15] (fun tm tn tk wx => ∃ (k many br' bn' bk : Nat) (sa : List Nat) (r g h : Nat → Nat), tm = .int .i64 many ∧ tn = .slice (some ⟨bn', 0, none⟩) n n ∧ tk = .pointer (some ⟨bk, 0, none⟩) ∧
                Hid (Vars wx n b6 (br + 1) (br + 1 + 1) bt br' bn' bk k sa r g h) ∧ Hid (Sorted s n many k sa r) ∧ Hid (Below b6 w wx) ∧ x4 ≤ bk ∧ bk < wx.heap.size ∧ many ≤ n ∧ ((br' = br ∧ bn' = bn) ∨ (br' = bn ∧ bn' = br)))
              (fun _ _ tk wx => 2 * n - kOf tk wx)
            case atStart => exact ⟨1, D.length, br, bn, x4, _, r, _, _, rfl, rfl, rfl, HV0.out, HS0.out, HB4.out, Nat.le_refl _, by omega, HD1, .inl ⟨rfl, rfl⟩⟩
            case round =>
              obtain ⟨k, many, br', bn', bk, sa, r', g, h, rfl, rfl, rfl, hV, hS, hB, hbk, hbk2, hmn, hbb⟩ := hrel
              have e6 := (cell_heap (o := 0) hV.out.1).trans rfl
              by_cases hlt : many < n
              · have hkn : k < n := by
                  obtain ⟨hR, hD, _⟩ := hS.out
                  have hsn := HN.out
                  have := depth_lt hR (by rw [hsn]; exact hD) (by omega)
                  omega
                have hk1 : 1 ≤ k := hS.out.2.2.2.2
                have hsl : sa.length = n := by simpa using hS.out.2.2.1.length_eq
                have ek := (cell_heap (o := 0) hV.out.2.2.1).trans rfl
                have hsub : (n : Int) - k = ((n - k : Nat) : Int) := by omega
                obtain ⟨wo, hwo⟩ : ∃ wo, wo = wr := ⟨_, rfl⟩
                subst hwo
                have HMK := Lib.hid hmk
                clear hmk HV0 HS0 HB4
                have hne1 : ¬ (b6 = br + 1 + 1) := by omega
                have hne2 : ¬ (bk = br + 1 + 1) := by omega
                go_wp2
                go_loopw [16, 17] (fun ta ti wx => ∃ (i : Nat) (h' : Nat → Nat), i ≤ k ∧ ta = .int .i64 i ∧ ti = .int .i64 (n - k + i : Nat) ∧ Hid (Nums wx (br + 1 + 1) n h') ∧ Hid (∀ j, j < i → h' j = n - k + j) ∧ Keeps (· = br + 1 + 1) wo wx) (fun ta _ _ => n - (intOf ta).toNat)
                case atStart => exact ⟨0, h, Nat.zero_le _, rfl, rfl, hV.out.2.2.2.2.2.1, fun j hj => by omega, Keeps.refl _ _⟩
                case round =>
                  obtain ⟨i, h', hi, rfl, rfl, hh', he, hK⟩ := hrel
                  have f6 := hK.cell e6 hne1
                  by_cases hik : i < k
                  · have c := hh'.out.cell (i := i) (by omega)
                    have cf := hh'.out.frozen i
                    have dt : decide (((n - k + i : Nat) : Int) < n) = true := decide_eq_true (by omega)
                    go_wp2
                    go_roundw
                    case rel =>
                      refine ⟨i + 1, fun j => if j = i then n - k + i else h' j, by omega, by go_num, by go_num, hh'.out.set i (n - k + i), fun j hj => ?_, hK.setCell (a := ⟨br + 1 + 1, i, none⟩) rfl _⟩
                      show (if j = i then n - k + i else h' j) = n - k + j
                      by_cases e : j = i
                      · rw [if_pos e, e]
                      · rw [if_neg e]; exact he.out j (by omega)
                    case measure => simp [intOf]; omega
                  · obtain rfl : i = k := by omega
                    have dt : decide (((n - i + i : Nat) : Int) < n) = false := decide_eq_false (by omega)
                    obtain ⟨k, hki⟩ : ∃ k, k = i := ⟨_, rfl⟩
                    subst hki
                    have HE := Lib.hid he
                    clear he
                    go_wp2
                    clear dt
                    go_loopw [16, 101] (fun ta tj wx => ∃ (j : Nat) (h' : Nat → Nat), j ≤ n ∧ tj = .int .i64 j ∧ ta = .int .i64 (halvesTo n k sa j).length ∧ Hid (Nums wx (br + 1 + 1) n h') ∧ Hid (∀ q, q < (halvesTo n k sa j).length → h' q = (halvesTo n k sa j).getD q 0) ∧ Keeps (· = br + 1 + 1) wo wx) (fun _ tj _ => n - (intOf tj).toNat)
                    case atStart => exact ⟨0, h', Nat.zero_le _, rfl, by rw [halvesTo_zero_len], hh'.out, fun q hq => by rw [halvesTo_zero_len] at hq; rw [halvesTo_zero_get n k sa q hq]; exact HE.out q hq, hK⟩
                    case round =>
                      obtain ⟨j, h', hj, rfl, rfl, hh', he, hK⟩ := hrel
                      have f6 := hK.cell e6 hne1
                      have fk := hK.cell ek hne2
                      by_cases hjn : j < n
                      · obtain ⟨p, hp⟩ : ∃ p, sa[j]? = some p := ⟨_, List.getElem?_eq_getElem (by omega)⟩
                        have hpn : p < n := by simpa using hS.out.2.2.1.mem_iff.1 (List.mem_of_getElem? hp)
                        have c := (hV.out.2.2.2.2.2.2.keeps hK (by omega)).cell hjn
                        rw [List.getD_eq_getElem?_getD, hp, Option.getD_some] at c
                        have hnx := halvesTo_next n k sa j p hp
                        have hl1 := halvesTo_len (n := n) (k := k) (by omega) hS.out.2.2.1 (j + 1)
                        by_cases hkp : k ≤ p
                        · rw [if_pos hkp] at hnx
                          have hl2 : (halvesTo n k sa j).length < n := by
                            rw [hnx, List.length_append] at hl1
                            simp at hl1
                            omega
                          have ch := hh'.out.cell hl2
                          have cf := hh'.out.frozen (halvesTo n k sa j).length
                          have hpk : (p : Int) - k = ((p - k : Nat) : Int) := by omega
                          have HNX := Lib.hid hnx
                          clear hnx hl1
                          generalize hL : halvesTo n k sa j = L at hl2 ch cf he HNX ⊢
                          go_wp2
                          go_roundw
                          case rel =>
                            refine ⟨j + 1, fun q => if q = L.length then p - k else h' q, by omega, by go_num, ?_, hh'.out.set L.length (p - k), ?_, hK.setCell (a := ⟨br + 1 + 1, L.length, none⟩) rfl _⟩
                            · rw [HNX.out]; simp
                            · intro q hq
                              rw [HNX.out, List.length_append] at hq
                              show (if q = L.length then p - k else h' q) = _
                              rw [HNX.out]
                              by_cases e : q = L.length
                              · rw [if_pos e, e, List.getD_eq_getElem?_getD, List.getElem?_append_right (Nat.le_refl _)]; simp
                              · have hq : q < L.length := by simp at hq; omega
                                rw [if_neg e, List.getD_eq_getElem?_getD, List.getElem?_append_left hq, he.out q hq, List.getD_eq_getElem?_getD]
                          case measure => simp [intOf]; omega
                        · rw [if_neg hkp] at hnx
                          have HNX := Lib.hid hnx
                          clear hnx hl1
                          go_wp2
                          go_roundw
                          case rel => exact ⟨j + 1, h', by omega, by go_num, by rw [HNX.out], hh'.out, by rw [HNX.out]; exact he.out, hK⟩
                          case measure => simp [intOf]; omega
                      · obtain rfl : j = n := by omega
                        rw [halvesTo_all _ _ _ hsl] at he
                        obtain ⟨n, hjj⟩ : ∃ n, n = j := ⟨_, rfl⟩
                        subst hjj
                        have hsn := HN.out
                        obtain ⟨hR, hD, hp, hso, _⟩ := hS.out
                        have hhl : (halves n k sa).length = n := by simpa using (halves_perm (k := k) (by omega) hp).length_eq
                        have htab : tabOf n h' = halves n k sa := (tabOf_congr fun i hi => he.out i (by omega)).trans (tabOf_getD n _ hhl)
                        have hdb := doubled (s := s) (k := k) (many := many) (r := r') (sa := sa) (by rw [hsn]; exact hD) (by omega) (by rw [hsn]; exact hp) hso
                        rw [hsn] at hdb
                        have hpt : (tabOf n h').Perm (List.range n) := by rw [htab]; exact halves_perm (by omega) hp
                        have v1 := hV.out.2.2.2.1.keeps hK (by omega)
                        have v2 := hV.out.2.2.2.2.1.keeps hK (by omega)
                        have v3 := hV.out.2.2.2.2.2.2.keeps hK (by omega)
                        have x1 := hK.heap hV.out.1 hne1
                        have x2 := hK.heap hV.out.2.1 (by omega)
                        have x3 := hK.heap hV.out.2.2.1 hne2
                        have e8 := (cell_heap (o := 0) x2).trans rfl
                        have hKsz := hK.size
                        have hlbt := v3.lt
                        have hlbn := v2.lt
                        have HTAB := Lib.hid htab
                        have HDB := Lib.hid hdb
                        have HHH := Lib.hid hh'.out
                        have HK3 := Lib.hid hK
                        have HRD := Lib.hid hD.1
                        have HPT := Lib.hid hpt
                        clear htab hdb hhl he hso hR hh' hD hp hpt HE
                        obtain ⟨S2, hS2⟩ : ∃ S2, sortBy many r' (halves n k sa) = S2 := ⟨_, rfl⟩
                        obtain ⟨S, hSf⟩ : ∃ S : Nat → Nat, (fun t => S2.getD t 0) = S := ⟨_, rfl⟩
                        rw [hS2] at HDB
                        have hpl : Placed n S := hSf ▸ placed_of HDB.out.1
                        have hS2l : S2.length = n := by simpa using HDB.out.1.length_eq
                        have hple : ∀ t u, t < u → u < n → pairLe s k r' (S t) (S u) := fun t u a b => by
                          have := pairwise_getD HDB.out.2 t u a (by omega)
                          rw [← hSf]; exact this
                        have hinj : ∀ t u, t < u → u < n → S t ≠ S u := fun t u a b => by
                          have := pairwise_getD (HDB.out.1.nodup_iff.2 List.nodup_range) t u a (by omega)
                          rw [← hSf]; exact this
                        have HINJ := Lib.hid hinj
                        clear hinj
                        have HPL := Lib.hid hpl
                        have HPLE := Lib.hid hple
                        have HS2 := Lib.hid hS2
                        have HSF := Lib.hid hSf
                        have hS0 := hpl.1 0 h0
                        clear hpl hple hS2 hSf hS2l
                        go_wp2_with (go_at_call 53; refine (sufByKey _ n many (br + 1 + 1) br' bt h' r' (fun i => sa.getD i 0) HHH.out v1 v3 (by omega) (by omega) hs (by omega) HRD.out HPT.out).mono ?_; rintro e w5 ⟨rfl, hs5, hk5⟩
                                     rw [HTAB.out, HS2.out, HSF.out] at hs5
                                     have cs0 := hs5.cell h0
                                     have y2 := v2.keeps hk5 (by omega)
                                     have cn0 := y2.cell hS0
                                     have cnf := y2.frozen (S 0)
                                     have hk5s := hk5.size)
                        have y1 := v1.keeps hk5 (by omega)
                        have z1 := hk5.heap x1 (by omega)
                        have z2 := hk5.heap x2 (by omega)
                        have z3 := hk5.heap x3 (by omega)
                        have HS5 := Lib.hid hs5
                        have HY1 := Lib.hid y1
                        have HY2 := Lib.hid y2
                        have HHH5 := Lib.hid (HHH.out.keeps hk5 (by omega))
                        have HK5 := Lib.hid hk5
                        clear v1 v2 v3 x1 x2 x3 e8 y1 y2 hs5 hk5 cs0 cn0 cnf HHH HTAB
                        have n1 : bt ≠ bn' := by omega
                        have n2 : br' ≠ bn' := by omega
                        have n3 : br + 1 ≠ bn' := by omega
                        have n4 : b6 ≠ bn' := by omega
                        have n5 : bk ≠ bn' := by omega
                        go_loopw [21] (fun ti wx => ∃ (i : Nat) (g' : Nat → Nat), 1 ≤ i ∧ i ≤ n ∧ ti = .int .i64 i ∧ Hid (Nums wx bn' n g') ∧ Hid (∀ t, t < i → g' (S t) = changes s k r' S t) ∧ Keeps (· = bn') w5 wx) (fun ti _ => n - (intOf ti).toNat)
                        case atStart => exact ⟨1, _, Nat.le_refl _, by omega, rfl, HY2.out.set (S 0) 0, fun t ht => by obtain rfl : t = 0 := by omega
                                                                                                                       exact if_pos rfl, (Keeps.refl (· = bn') w5).setCell (a := ⟨bn', S 0, none⟩) rfl _⟩
                        case round =>
                          obtain ⟨i, g', hi1, hin, rfl, hg', hch, hK⟩ := hrel
                          have f6 := hK.cell ((cell_heap (o := 0) z1).trans rfl) n4
                          have f8 := hK.cell ((cell_heap (o := 0) z2).trans rfl) n3
                          have fk := hK.cell ((cell_heap (o := 0) z3).trans rfl) n5
                          have T5 := HS5.out.keeps hK n1
                          have R5 := HY1.out.keeps hK n2
                          by_cases hlt3 : i < n
                          · obtain ⟨j, rfl⟩ := Nat.exists_eq_add_of_le' hi1
                            have la := HPL.out.1 j (by omega)
                            have lb := HPL.out.1 (j + 1) hlt3
                            have ca := T5.cell (i := j) (by omega)
                            have cb := T5.cell (i := j + 1) hlt3
                            have hab := HINJ.out j (j + 1) (by omega) hlt3
                            have cga := hg'.out.cell la
                            have cgb := hg'.out.cell lb
                            have cgf := hg'.out.frozen (S (j + 1))
                            have cra := R5.cell la
                            have crb := R5.cell lb
                            have hq2 : ((j + 1 : Nat) : Int) - 1 = (j : Int) := by omega
                            have hgc := hch.out j (by omega)
                            have hcl := changes_le s k r' S j
                            have hcs : changes s k r' S (j + 1) = changes s k r' S j + if r' (S j) ≠ r' (S (j + 1)) ∨ second s k r' (S j) ≠ second s k r' (S (j + 1)) then 1 else 0 := rfl
                            obtain ⟨a, ha⟩ : ∃ a, S j = a := ⟨_, rfl⟩
                            obtain ⟨b', hb'⟩ : ∃ b', S (j + 1) = b' := ⟨_, rfl⟩
                            rw [ha] at la ca cga cra hgc hcs hab
                            rw [hb'] at lb cb cgb cgf crb hcs hab
                            obtain ⟨x, hx⟩ : ∃ x, g' a = x := ⟨_, rfl⟩
                            rw [hx] at cga hgc
                            have HA := Lib.hid ha
                            have HB' := Lib.hid hb'
                            have HX := Lib.hid hx
                            have HGC := Lib.hid hgc
                            have hxl : x ≤ 65536 := by omega
                            clear hgc hcl
                            have HCS := Lib.hid hcs
                            clear ha hb' hx hcs
                            go_wp2
                            go_quiet (fail)
                            go_wp2
                            have K6 : ∀ m, Keeps (· = bn') w5 ((wr.drewN m).setCell ⟨bn', b', none⟩ (.int .i64 x)) := fun m => (hK.drewN m).setCell (a := ⟨bn', b', none⟩) rfl _
                            have s6 := fun m => (K6 m).cell ((cell_heap (o := 0) z1).trans rfl) n4
                            have s8 := fun m => (K6 m).cell ((cell_heap (o := 0) z2).trans rfl) n3
                            have sk := fun m => (K6 m).cell ((cell_heap (o := 0) z3).trans rfl) n5
                            have sR := fun m => HY1.out.keeps (K6 m) n2
                            have HsR := Lib.hid sR
                            have sra := fun m => (sR m).cell la
                            have srb := fun m => (sR m).cell lb
                            have G6 := fun m => (hg'.out.drewN m).set b' x
                            have HG6 := Lib.hid G6
                            have sgb := fun m => (G6 m).cell lb
                            have sgf := fun m => (G6 m).frozen b'
                            clear G6 sR
                            simp only [if_true] at sgb
                            have hrel : ∀ (g2 : Nat → Nat) (v : Nat), (∀ i, i ≠ b' → g2 i = g' i) → g2 b' = v → v = changes s k r' S (j + 1) → ∀ t, t < j + 1 + 1 → g2 (S t) = changes s k r' S t := by
                              intro g2 v e1 e2 e3 t ht
                              rcases Nat.lt_succ_iff_lt_or_eq.1 ht with h1 | rfl
                              · rw [e1 _ (fun e => HINJ.out t (j + 1) h1 hlt3 (e.trans HB'.out.symm)), hch.out t h1]
                              · rw [HB'.out, e2, e3]
                            have HREL := Lib.hid hrel
                            clear hrel
                            by_cases hra : r' a = r' b'
                            · obtain ⟨p, hp⟩ : ∃ p : Int, (if a + k < n then (r' (a + k) : Int) else -1) = p := ⟨_, rfl⟩
                              obtain ⟨q, hq⟩ : ∃ q : Int, (if b' + k < n then (r' (b' + k) : Int) else -1) = q := ⟨_, rfl⟩
                              have SA := fun m m' => sufSecond (((wr.drewN m).setCell ⟨bn', b', none⟩ (.int .i64 x)).drewN m') bk b6 (br + 1) br' n k a r' (sk m) (s6 m) (s8 m) (HsR.out m) la hs (by omega)
                              have SB := fun m m' => sufSecond (((wr.drewN m).setCell ⟨bn', b', none⟩ (.int .i64 x)).drewN m') bk b6 (br + 1) br' n k b' r' (sk m) (s6 m) (s8 m) (HsR.out m) lb hs (by omega)
                              rw [hp] at SA
                              rw [hq] at SB
                              have hpq : second s k r' a ≠ second s k r' b' ↔ p ≠ q := by
                                unfold second
                                rw [HN.out, ← hp, ← hq]
                                split <;> split <;> omega
                              have HSA := Lib.hid SA
                              have HSB := Lib.hid SB
                              have HPQ := Lib.hid hpq
                              clear SA SB hp hq hpq
                              by_cases hpe : p = q
                              · subst hpe
                                go_quiet ((go_at_call 54; first | (with_reducible exact quiet_same (HSA.out _ _)) | (with_reducible exact quiet_same (HSB.out _ _))))
                                go_wp2
                                go_roundw
                                case rel =>
                                  refine ⟨j + 1 + 1, _, by omega, by omega, by go_num, (HG6.out _).drewN _, ?_, (K6 _).drewN _⟩
                                  refine HREL.out _ x (fun i e => if_neg e) (if_pos rfl) ?_
                                  rw [HCS.out, if_neg (by rintro (h | h); exact h hra; exact HPQ.out.1 h rfl), Nat.add_zero]; exact HGC.out
                                case measure => simp [intOf]; omega
                              · go_quiet ((go_at_call 54; first | (with_reducible exact quiet_same (HSA.out _ _)) | (with_reducible exact quiet_same (HSB.out _ _))))
                                go_wp2
                                go_roundw
                                case rel =>
                                  refine ⟨j + 1 + 1, fun i => if i = b' then x + 1 else if i = b' then x else g' i, by omega, by omega, by go_num, ((HG6.out _).drewN _).set b' (x + 1), ?_, ((K6 _).drewN _).setCell (a := ⟨bn', b', none⟩) rfl _⟩
                                  refine HREL.out (fun i => if i = b' then x + 1 else if i = b' then x else g' i) (x + 1) (fun i e => (if_neg e).trans (if_neg e)) (if_pos rfl) ?_
                                  rw [HCS.out, if_pos (.inr (HPQ.out.2 hpe)), ← HGC.out]
                                case measure => simp [intOf]; omega
                            · have hra1 : ((r' a : Nat) : Int) ≠ (r' b' : Nat) := fun h => hra (by omega)
                              have hra2 : (((r' a : Nat) : Int) == (r' b' : Nat)) = false := beq_eq_false_iff_ne.2 hra1
                              have hra3 : decide (((r' a : Nat) : Int) = (r' b' : Nat)) = false := decide_eq_false hra1
                              go_quiet (fail)
                              go_wp2
                              go_roundw
                              case rel =>
                                refine ⟨j + 1 + 1, fun i => if i = b' then x + 1 else if i = b' then x else g' i, by omega, by omega, by go_num, ((HG6.out _).drewN _).set b' (x + 1), ?_, ((K6 _).drewN _).setCell (a := ⟨bn', b', none⟩) rfl _⟩
                                refine HREL.out (fun i => if i = b' then x + 1 else if i = b' then x else g' i) (x + 1) (fun i e => (if_neg e).trans (if_neg e)) (if_pos rfl) ?_
                                rw [HCS.out, if_pos (.inl hra), ← HGC.out]
                              case measure => simp [intOf]; omega
                          · obtain rfl : i = n := by omega
                            obtain ⟨n, hii⟩ : ∃ n, n = i := ⟨_, rfl⟩
                            subst hii
                            have hSn := HPL.out.1 (n - 1) (by omega)
                            have cst := T5.cell (i := n - 1) (by omega)
                            have cgn := hg'.out.cell hSn
                            have q8 := hK.heap z2 n3
                            have f8f : wr.frozen? ⟨br + 1, 0, none⟩ = false := by simp [World.frozen?, q8]
                            have hyl := hch.out (n - 1) (by omega)
                            have hyc := changes_le s k r' S (n - 1)
                            have hn1 : (n : Int) - 1 = ((n - 1 : Nat) : Int) := by omega
                            have h5s := hK.size
                            obtain ⟨y, hy⟩ : ∃ y, g' (S (n - 1)) = y := ⟨_, rfl⟩
                            rw [hy] at cgn hyl
                            have hyn : y ≤ n - 1 := by omega
                            have HY := Lib.hid hy
                            obtain ⟨z, hz⟩ : ∃ z, S (n - 1) = z := ⟨_, rfl⟩
                            rw [hz] at cst cgn hSn
                            have HZ := Lib.hid hz
                            clear hy hyl hyc hz
                            have n6 : bt ≠ br + 1 := by omega
                            have n7 : bn' ≠ br + 1 := by omega
                            have n8 : b6 ≠ br + 1 := by omega
                            have n9 : bk ≠ br + 1 := by omega
                            go_wp2
                            go_quiet (fail)
                            go_wp2
                            go_roundw
                            case rel =>
                              refine ⟨k + k, y + 1, bn', br', _, S2, g', r', h', by go_num, rfl, rfl, ?_, ?_, ?_, ?_, ?_, by omega, by omega⟩
                              rotate_left
                              · exact (by
                                  have hsn := HN.out
                                  have hR := hS.out.1
                                  have hc := HPLE.out
                                  have hp := HPL.out
                                  have hd := HDB.out.1
                                  have hch' := hch.out
                                  have hy := HY.out
                                  have hz := HZ.out
                                  have hsf := HSF.out
                                  subst hsn
                                  refine ⟨Ranks.next hR hk1 hp hc hch', ?_, hd, sorted_next hd (r := r') (k := k) (fun t ht => ?_), by omega⟩
                                  · have := Dense.next hp hch' h0
                                    rw [hz, ← hz, hy] at this
                                    exact this
                                  · rw [hsf]
                                    have := hch' t ht
                                    rw [← hsf] at this ⊢
                                    exact this : Sorted s n (y + 1) (k + k) S2 g')
                              · show Below b6 w _
                                refine (((hB.out.trans ((HK3.out.below (B := b6) (fun i e => by omega) (by omega)))).trans (HK5.out.below (B := b6) (fun i e => by omega) (by omega))).trans (hK.below (B := b6) (fun i e => by omega) (by omega))).trans ?_
                                exact (below_set (Below.refl b6 _) (by omega) 0 _ _).alloc (by simp; omega) _
                              · omega
                              · simp
                              · refine Vars.swap (bk := bk) ⟨hK.heap z1 n4, q8, hK.heap z3 n5, R5, hg'.out, HHH5.out.keeps hK (by omega), ?_⟩ n8 (by omega) n6 (by omega) n7
                                have := T5
                                rw [← HSF.out] at this
                                exact this
                            case measure =>
                              have k1 : kOf (.pointer (some ⟨bk, 0, none⟩)) wo = k := by simp [kOf, ek, intOf]
                              rw [k1]
                              have k2 : ∀ (W : World) (o : Int), kOf (.pointer (some ⟨W.heap.size, 0, none⟩)) (W.alloc (.cells #[.int .i64 o] 3)) = o.toNat := fun W o => by simp [kOf, intOf]
                              have := k2 ((wr.setCell ⟨br + 1, 0, none⟩ (.slice (some ⟨bn', 0, none⟩) n n)).drewN nq) ((k : Int) * 2)
                              simp only [World.heap_drewN, World.size_setCell] at this
                              rw [this]
                              omega
              · go_wp2
                go_ret2
                obtain ⟨hR, hD, hp, hso, _⟩ := hS.out
                have hsn := HN.out
                refine ⟨bt, sa, by rw [hsn]; rfl, by omega, by rw [hsn]; exact hV.out.2.2.2.2.2.2, sa_done hR (by rw [hsn]; exact hD) (by omega) (by rw [hsn]; exact hp) hso, ?_⟩
                rw [hb6]; exact hB.out
end Go.Proofs.Ythgnapngjmgkcaa
