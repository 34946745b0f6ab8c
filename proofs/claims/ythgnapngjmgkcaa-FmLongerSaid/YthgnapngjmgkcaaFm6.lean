import Derived.Test.YthgnapngjmgkcaaFm5
/- Package fm: Extract. -/
namespace Go.Proofs.Ythgnapngjmgkcaa
open Go.RowKit Go.Shelf

theorem Try.info_u8 : (Try.prog.info? 5).map (fun i => (i.zero, i.size, i.bytes)) = some (some (.int .u8 0), 1, 1) := by kernel_rfl
theorem make_u8 (m : Nat) (hm : m ≤ 1048576) : ∀ W : World, (Instr.makeSlice 24 (.int .i64 (m : Int)) (.int .i64 (m : Int))).run Try.prog W = .ok (.slice (some ⟨W.heap.size, 0, none⟩) m m) (W.alloc (.cells (madeCells #[.int .u8 0] m) 5)) := by
  intro W
  exact run_make_row' 24 5 (.int .u8 0) 1 Try.underlying24 Try.info_u8 rfl .i64 .i64 m (by omega) (by omega) W
/-- block b is a row of n bytes -/
def Byts (w : World) (b n : Nat) (g : Nat → UInt8) : Prop := w.rowIs b 5 n (fun i => .int .u8 ((g i).toNat : Int))
namespace Byts
variable {w w' : World} {b n : Nat} {g h : Nat → UInt8}
theorem cell (hr : Byts w b n g) {i : Nat} (hi : i < n) : w.cell? ⟨b, i, none⟩ = some (.int .u8 ((g i).toNat : Int)) := World.rowIs.cell hr hi
theorem frozen (hr : Byts w b n g) (i : Nat) : w.frozen? ⟨b, i, none⟩ = false := World.rowIs.frozen hr i
theorem lt (hr : Byts w b n g) : b < w.heap.size := World.rowIs.lt hr
theorem congr (hr : Byts w b n g) (e : ∀ i, i < n → g i = h i) : Byts w b n h := World.rowIs.congr hr fun i hi => by rw [e i hi]
theorem below (hr : Byts w b n g) (hk : Below w.heap.size w w') : Byts w' b n g := World.rowIs.of_block hr (hk.block b hr.lt)
theorem set (hr : Byts w b n g) (i : Nat) (x : UInt8) : Byts (w.setCell ⟨b, i, none⟩ (.int .u8 (x.toNat : Int))) b n (fun j => if j = i then x else g j) := (World.rowIs.set hr i _).congr fun j _ => by dsimp only; split <;> rfl
theorem made (w : World) (n : Nat) : Byts (w.alloc (.cells (madeCells #[.int .u8 0] n) 5)) w.heap.size n (fun _ => 0) := World.rowIs_made w (.int .u8 0) n 5
end Byts

theorem sh_back (y : UInt8) : IntKind.u8.wrap ((sh y : Int) - 2) = (y.toNat : Int) := by
  have := y.toNat_lt
  unfold sh
  rw [IntWalk.u8_in _ (by omega)]
  omega
/-- what Extract answers of a text that there is -/
def ExtOk (w : World) (t : List UInt8) (e : Ending) (w' : World) : Prop := ∃ v, e = .returned v ∧ Sl w' v (bytes t) ∧ Below w.heap.size w w'

set_option maxRecDepth 100000 in
set_option maxHeartbeats 4000000 in
theorem idxExtract (b : Nat) (l : List (List UInt8)) (sa : List Nat) (w : World) (d f : Nat) (n : Int) (h : IsIdx w b (rowOf l) sa (stL l)) (hd : d < l.length) (hf : f < (l.getD d []).length) (hn : 0 < n) :
    Calls Try.prog 16 #[.pointer (some ⟨b, 0, none⟩), .int .i64 d, .int .i64 f, .int .i64 n] w (ExtOk w (((l.getD d []).drop f).take n.toNat)) := by
  obtain ⟨q1, q2⟩ := row_small h
  have hl := idxLenOf b l sa w d h
  rw [lenOf, if_pos (by omega), Int.toNat_natCast] at hl
  have H := Lib.hid h
  obtain ⟨h1, h2, h3, h4, bt, bl, bm, bp, br, wd, m, vs, ff, hm, c0, c1, c2, c3, c4, c5, t0, t1, t2, t3, t4, t5, t6⟩ := h
  obtain ⟨bb, off, cap2, rfl, hlc2, hcm2, hcs⟩ := t2.full (by simp)
  rw [nats_length, stL_length] at c2 hlc2
  have cst := hcs d (.int .i64 (stOf l d : Nat)) (by simp [nats, stL_get l d (by omega)])
  have e1 := stOf_succ l d hd
  have e2 := stOf_mono l (show d + 1 ≤ l.length by omega) (Nat.le_refl _)
  have e3 := rowOf_length l
  have hin := fun o (ho : o < (l.getD d []).length) => rowOf_in l d o hd ho
  generalize l.getD d [] = t at hl e1 hf hin ⊢
  obtain ⟨N, hN⟩ : ∃ N, (rowOf l).length = N := ⟨_, rfl⟩
  have hlen := fun W (hb : Below w.heap.size w W) => treeLen bt 9 (turnedOf (rowOf l) sa) W (t0.below hb)
  rw [turnedOf_length h1, hN] at hlen
  rw [hN] at e3 h3 hm
  obtain ⟨k, hk⟩ : ∃ k, min n.toNat (t.length - f) = k := ⟨_, rfl⟩
  obtain ⟨sd, hsd⟩ : ∃ sd, stOf l d = sd := ⟨_, rfl⟩
  rw [hsd] at cst e1 hin
  obtain ⟨a, ha⟩ : ∃ a, sd + f = a := ⟨_, rfl⟩
  obtain ⟨sp, hsp⟩ : ∃ sp, a + k = sp := ⟨_, rfl⟩
  obtain ⟨N1, hN1⟩ : ∃ N1, N - 1 = N1 := ⟨_, rfl⟩
  obtain ⟨many, hmany⟩ : ∃ many, t.length = many := ⟨_, rfl⟩
  rw [hmany] at hl e1 hf hk hin
  obtain ⟨kk, hkk⟩ : ∃ kk, (sp + 7) / 8 = kk := ⟨_, rfl⟩
  obtain ⟨rest, hrest⟩ : ∃ rest, many - f = rest := ⟨_, rfl⟩
  obtain ⟨nx, hnx⟩ : ∃ nx, kk * 8 = nx := ⟨_, rfl⟩
  have i1 : (many : Int) - (f : Int) = (rest : Int) := by omega
  have i2 : min n (rest : Int) = (k : Int) := by omega
  have k0 : rest ≤ 65536 := by omega
  have j1 : (kk : Int) * 8 = (nx : Int) := by omega
  have j2 : (nx : Int) / 8 = (kk : Int) := by omega
  have k7 : nx ≤ 65600 := by omega
  have k8 : sp ≤ nx := by omega
  have i3 : (sd : Int) + (f : Int) = (a : Int) := by omega
  have i4 : (a : Int) + (k : Int) = (sp : Int) := by omega
  have i5 : (N : Int) - 1 = (N1 : Int) := by omega
  have i6 : ((sp : Int) + 8 - 1) / 8 = (kk : Int) := by omega
  have i7 : (sp : Int) - (k : Int) = (a : Int) := by omega
  have k1 : 0 < k := by omega
  have k2 : k ≤ 65536 := by omega
  have k3 : sp ≤ N1 := by omega
  have k4 : N1 ≤ 65535 := by omega
  have k5 : sp ≤ 8 * kk := by omega
  have k6 : 8 * kk ≤ sp + 7 := by omega
  have hmk := make_u8 k (by omega)
  have d1 : decide (((f : Nat) : Int) < 0) = false := by simp
  have d2 : decide (n ≤ 0) = false := decide_eq_false (by omega)
  have d3 : decide (many ≤ f) = false := decide_eq_false (by omega)
  have hLen := Lib.hid hl
  have HLen := Lib.hid hlen
  have H1 := Lib.hid h1
  have H2 := Lib.hid h2
  have HIN := Lib.hid hin
  have T0 := Lib.hid t0
  have T6 := Lib.hid t6
  have HK := Lib.hid hk
  have HSD := Lib.hid hsd
  have HA := Lib.hid ha
  have HSP := Lib.hid hsp
  have HMN := Lib.hid hmany
  have HN := Lib.hid hN
  have HN1 := Lib.hid hN1
  have HM := Lib.hid hm
  have HNX := Lib.hid hnx
  have HREST := Lib.hid hrest
  have hdl : d < l.length + 1 := by omega
  clear hnx hrest hl hlen h1 h2 h4 hin t0 t1 t2 t3 t4 t5 t6 hk hsd ha hsp hmany hN hN1 hm hcs c1 c3 c4 hkk e1 e2 e3
  obtain ⟨L1, hL1⟩ : ∃ L1, l.length + 1 = L1 := ⟨_, rfl⟩
  rw [hL1] at c2 hlc2 hdl
  clear hL1 hd q1 q2
  go_enter Try.func16, Try.ntmps16
  go_upto_if 64 with (first
        | (go_at_call 14; refine hLen.out.mono ?_; rintro e w1 ⟨rfl, m1, rfl⟩)
        | (go_at_call 28; refine (HLen.out _ (below_drewN (Below.refl _ _) _)).mono ?_; rintro e w2 ⟨rfl, rfl⟩))
  go_cut [11, 12] (fun u11 u12 wx => ∃ A row : Nat, u11 = .int .i64 A ∧ u12 = .int .i64 row ∧ sp ≤ A ∧ A ≤ N1 ∧ Hid (rk sa A = row) ∧ Below w.heap.size w wx)
  case first =>
    by_cases hlt : nx < N1
    · have j3 : decide (nx < N1) = true := decide_eq_true hlt
      have hkm : kk < m := by have := HM.out; have := HN1.out; omega
      have c6 := T6.out.cell hkm
      have hnx2 := HNX.out
      obtain ⟨row, hrow⟩ : ∃ row, rk sa (8 * kk) = row := ⟨_, rfl⟩
      rw [hrow] at c6
      rw [show 8 * kk = nx by omega] at hrow
      have HROW := Lib.hid hrow
      clear hrow hnx2
      go_wp2
      go_quiet (fail)
      go_wp2
      go_meet
      exact ⟨nx, row, rfl, rfl, k8, by omega, HROW.out, below_drewN (below_drewN (Below.refl _ _) _) _⟩
    · have j3 : decide (nx < N1) = false := decide_eq_false hlt
      go_wp2
      go_meet
      refine ⟨N1, 0, rfl, rfl, k3, Nat.le_refl _, ?_, below_drewN (Below.refl _ _) _⟩
      have := rk_last H1.out H2.out
      rw [HN.out, HN1.out] at this
      exact this
  case rest =>
    obtain ⟨A0, row0, rfl, rfl, l1, l2, hr0, hBx⟩ := hcut
    clear i1 i2 i3 i4 i5 i6 j1 j2 cst c2 c5
    go_wp2
    obtain ⟨bo, hbo⟩ : ∃ bo, wc.heap.size = bo := ⟨_, rfl⟩
    have hmade := Byts.made wc k
    have hA : Below wc.heap.size wc (wc.alloc (.cells (madeCells #[.int .u8 0] k) 5)) := (Below.refl _ _).alloc (Nat.le_refl _) _
    rw [hbo] at hmade hA ⊢
    have HMADE := Lib.hid hmade
    obtain ⟨W1, hW1⟩ : ∃ W1, wc.alloc (.cells (madeCells #[.int .u8 0] k) 5) = W1 := ⟨_, rfl⟩
    rw [hW1] at HMADE hA ⊢
    have hB1 : Below w.heap.size w W1 := below_up hBx (by rw [hbo]; exact hA) hBx.size
    have hwo : w.heap.size ≤ bo := by rw [← hbo]; exact hBx.size
    clear hmade hW1 hmk hA
    go_loopw [11, 12] (fun u11 u12 wr => ∃ (A row : Nat) (g : Nat → UInt8), u11 = .int .i64 A ∧ u12 = .int .i64 row ∧ a ≤ A ∧ A ≤ N1 ∧ Hid (rk sa A = row) ∧ Hid (Byts wr bo k g) ∧ Hid (∀ j, j < k → A ≤ a + j → g j = t.getD (f + j) 0) ∧ Below w.heap.size w wr) (fun u11 _ _ => (intOf u11).toNat)
    case atStart => exact ⟨A0, row0, _, rfl, rfl, by omega, l2, hr0, HMADE.out, fun j hj h => by omega, hB1⟩
    case round =>
      obtain ⟨A, row, g, rfl, rfl, m1, m2, hr, hg, hgv, hB⟩ := hrel
      by_cases hlt : a < A
      · obtain ⟨r, rfl⟩ : ∃ r, A = r + 1 := ⟨A - 1, by omega⟩
        have hrN : r + 1 < (rowOf l).length := by rw [HN.out]; have := HN1.out; omega
        obtain ⟨g1, g2, g3⟩ := ahead_rk H1.out H2.out hrN
        have hrl := rk_lt H1.out hrN
        rw [hr.out] at g1 g3 hrl
        obtain ⟨row2, hrow2⟩ : ∃ row2, rk sa r = row2 := ⟨_, rfl⟩
        have hxl : (turnedOf (rowOf l) sa)[row]? = some ((rowOf l).getD r 0) := by
          have hl2 : row < (turnedOf (rowOf l) sa).length := by rw [turnedOf_length H1.out]; exact hrl
          rw [← g1, List.getD_eq_getElem?_getD, List.getElem?_eq_getElem hl2]; rfl
        have hch : r < sp → (rowOf l).getD r 0 = sh (t.getD (f + (r - a)) 0) := fun h => by
          have h1 := HA.out
          have h2 := HSP.out
          have h3 := HREST.out
          have h4 := HK.out
          have h5 := HIN.out (f + (r - a)) (by omega)
          rw [show sd + (f + (r - a)) = r by omega] at h5
          exact h5
        have hx0 : 1 ≤ (rowOf l).getD r 0 := by omega
        have hx1 : (rowOf l).getD r 0 < 258 := by
          rw [List.getD_eq_getElem?_getD, List.getElem?_eq_getElem (show r < (rowOf l).length by omega)]
          exact rowOf_lt l _ (List.getElem_mem _)
        generalize (rowOf l).getD r 0 = x at hxl hch hx0 hx1
        have G1 := Lib.hid (fun W (hb : Below wr.heap.size wr W) => treeGet bt 9 x row (turnedOf (rowOf l) sa) W ((T0.out.below hB).below hb) (by omega) (by rw [Int.toNat_natCast]; exact hxl))
        have G2 := Lib.hid (fun W (hb : Below wr.heap.size wr W) => idxAhead b _ sa _ W r row row2 ((H.out.below hB).below hb) hrN hr.out hrow2)
        have HR2 := Lib.hid hrow2
        have c0' := cell_below hB c0
        have i7' : (sp : Int) - (k : Int) = (a : Int) := i7
        have q1 : ((r + 1 : Nat) : Int) - 1 = (r : Int) := by omega
        have t1 : decide (a < r + 1) = true := decide_eq_true hlt
        clear g1 g2 g3 hrl hxl hrow2
        by_cases hrs : r < sp
        · have t2 : decide (r < sp) = true := decide_eq_true hrs
          have hch := hch hrs
          subst hch
          obtain ⟨j, hj⟩ : ∃ j, r - a = j := ⟨_, rfl⟩
          have hjk : j < k := by have h2 := HSP.out; omega
          have q2 : (r : Int) - (a : Int) = (j : Int) := by omega
          obtain ⟨y, hy⟩ : ∃ y, t.getD (f + j) 0 = y := ⟨_, rfl⟩
          rw [hj, hy] at G1 hx0 hx1
          have q3 := sh_back y
          have q4 : (0 : Int) ≤ (sh y : Int) - 2 := by unfold sh; omega
          have q5 : (sh y : Int) - 2 ≤ 255 := by have := y.toNat_lt; unfold sh; omega
          have HY := Lib.hid hy
          have HJ := Lib.hid hj
          clear hy hj
          go_wp2_with (first
            | (go_at_call 29; refine (G1.out _ (Below.refl _ _)).mono ?_; rintro e w2 ⟨rfl, hb2⟩)
            | (go_at_call 30; refine (G2.out _ hb2).mono ?_; rintro e w3 ⟨rfl, hb3⟩
               have hB3 := below_up hb2 hb3 hb2.size
               have hg3 := hg.out.below hB3
               have cc := hg3.cell hjk
               have cf := hg3.frozen j))
          go_roundw
          case rel =>
            refine ⟨r, row2, fun i => if i = j then y else g i, by go_num, rfl, by omega, by omega, HR2.out, hg3.set j y, fun i hi h => ?_, ?_⟩
            · show (if i = j then y else g i) = _
              by_cases e : i = j
              · rw [if_pos e, e, HY.out]
              · rw [if_neg e]
                exact hgv.out i hi (by have := HJ.out; omega)
            · exact (below_up hB hB3 hB.size).setCell (p := ⟨bo, j, none⟩) hwo _
          case measure => simp [intOf]
        · have t2 : decide (r < sp) = false := decide_eq_false hrs
          go_wp2_with (first
            | (go_at_call 29; refine (G1.out _ (Below.refl _ _)).mono ?_; rintro e w2 ⟨rfl, hb2⟩)
            | (go_at_call 30; refine (G2.out _ hb2).mono ?_; rintro e w3 ⟨rfl, hb3⟩
               have hB3 := below_up hb2 hb3 hb2.size))
          go_roundw
          case rel => exact ⟨r, row2, g, by go_num, rfl, by omega, by omega, HR2.out, hg.out.below hB3, fun j hj h => hgv.out j hj (by have h2 := HSP.out; omega), below_up hB hB3 hB.size⟩
          case measure => simp [intOf]
      · obtain rfl : a = A := by omega
        have t1 : decide (a < a) = false := by simp
        go_wp2
        go_ret
        have hkm : k = min n.toNat (t.length - f) := HK.out.symm ▸ by rw [HMN.out]
        have hlen2 : ((t.drop f).take n.toNat).length = k := by rw [List.length_take, List.length_drop]; omega
        refine ⟨_, rfl, ?_, hB⟩
        have := Sl.mk_ (w := wr) (b := bo) (off := 0) (cap := k) (xs := bytes ((t.drop f).take n.toNat)) (by simp [hlen2]) (by omega) (fun i x hx => by
          have hi : i < ((t.drop f).take n.toNat).length := by have := (List.getElem?_eq_some_iff.1 hx).1; simpa using this
          rw [bytes_get _ i hi] at hx
          rw [Nat.zero_add, hg.out.cell (by omega : i < k), hgv.out i (by omega) (by omega), ← hx]
          congr 3
          rw [List.getElem_take, List.getElem_drop, List.getD_eq_getElem?_getD, List.getElem?_eq_getElem]
          rfl)
        rw [bytes_length, hlen2] at this
        exact this
end Go.Proofs.Ythgnapngjmgkcaa
