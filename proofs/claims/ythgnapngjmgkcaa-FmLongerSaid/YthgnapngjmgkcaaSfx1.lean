import Derived.Test.YthgnapngjmgkcaaSortM
import Derived.Test.YthgnapngjmgkcaaBits3
/- Package suffix: byKey. -/
namespace Go.Proofs.Ythgnapngjmgkcaa
open Go.RowKit

/-- make([]int, m) -/
theorem make_int (m : Nat) (hm : m ≤ 1048576) : ∀ W : World, (Instr.makeSlice 43 (.int .i64 (m : Int)) (.int .i64 (m : Int))).run Try.prog W = .ok (.slice (some ⟨W.heap.size, 0, none⟩) m m) (W.alloc (.cells (madeCells #[.int .i64 0] m) 3)) := by
  intro W
  exact run_make_row' 43 3 (.int .i64 0) 8 Try.underlying43 Try.info_int rfl .i64 .i64 m (by omega) (by omega) W
/-- block b is a row of n ints -/
def Nums (w : World) (b n : Nat) (g : Nat → Nat) : Prop := w.rowIs b 3 n (fun i => .int .i64 (g i : Nat))
namespace Nums
variable {w w' : World} {b n : Nat} {g h : Nat → Nat}
theorem cell (hr : Nums w b n g) {i : Nat} (hi : i < n) : w.cell? ⟨b, i, none⟩ = some (.int .i64 (g i : Nat)) := World.rowIs.cell hr hi
theorem frozen (hr : Nums w b n g) (i : Nat) : w.frozen? ⟨b, i, none⟩ = false := World.rowIs.frozen hr i
theorem lt (hr : Nums w b n g) : b < w.heap.size := World.rowIs.lt hr
theorem congr (hr : Nums w b n g) (e : ∀ i, i < n → g i = h i) : Nums w b n h := World.rowIs.congr hr fun i hi => by rw [e i hi]
theorem keeps {S : Nat → Prop} (hr : Nums w b n g) (hk : Keeps S w w') (hn : ¬ S b) : Nums w' b n g := World.rowIs.of_block hr (hk.block b hr.lt hn)
theorem below (hr : Nums w b n g) (hk : Below w.heap.size w w') : Nums w' b n g := World.rowIs.of_block hr (hk.block b hr.lt)
theorem set (hr : Nums w b n g) (i x : Nat) : Nums (w.setCell ⟨b, i, none⟩ (.int .i64 (x : Nat))) b n (fun j => if j = i then x else g j) := (World.rowIs.set hr i _).congr fun j _ => by dsimp only; split <;> rfl
theorem setOther (hr : Nums w b n g) {a : Addr} (ha : b ≠ a.block) (v : Value) : Nums (w.setCell a v) b n g := World.rowIs.setOther hr ha v
theorem made (w : World) (n : Nat) : Nums (w.alloc (.cells (madeCells #[.int .i64 0] n) 3)) w.heap.size n (fun _ => 0) := World.rowIs_made w (.int .i64 0) n 3
theorem drewN (hr : Nums w b n g) (m : Nat) : Nums (w.drewN m) b n g := hr
end Nums

/-- the counts while they are taken -/
def count1 (K : Nat → Nat) (k v : Nat) : Nat := match v with | 0 => 0 | v + 1 => cnt (fun i => K i == v) k
theorem count1_le (K : Nat → Nat) (k v : Nat) : count1 K k v ≤ k := by
  cases v with
  | zero => exact Nat.zero_le _
  | succ v => exact cnt_le _ _
theorem count1_step (K : Nat → Nat) (k j : Nat) : (if j = K k + 1 then count1 K k (K k + 1) + 1 else count1 K k j) = count1 K (k + 1) j := by
  cases j with
  | zero => rw [if_neg (by omega)]; rfl
  | succ v =>
    by_cases e : v = K k
    · subst e; rw [if_pos rfl]; simp [count1, cnt]
    · rw [if_neg (by omega)]
      have : (K k == v) = false := by simpa using fun h => e h.symm
      simp [count1, cnt, this]
def count2 (K : Nat → Nat) (l : List Nat) (n i v : Nat) : Nat := if v < i then startOf K l v else count1 K n v
theorem count2_start (K : Nat → Nat) (l : List Nat) (n v : Nat) : count2 K l n 1 v = count1 K n v := by
  unfold count2
  split
  · obtain rfl : v = 0 := by omega
    rfl
  · rfl
theorem startOf_le (K : Nat → Nat) (l : List Nat) (v : Nat) : startOf K l v ≤ l.length := by
  rw [startOf, (sortBy_filter v K l).length_eq]; exact List.length_filter_le _ _
theorem count2_step (K : Nat → Nat) (l : List Nat) (n i j : Nat) (h : l.Perm (List.range n)) (h1 : 1 ≤ i) : (if j = i then count2 K l n i i + count2 K l n i (i - 1) else count2 K l n i j) = count2 K l n (i + 1) j := by
  by_cases e : j = i
  · subst e
    obtain ⟨v, rfl⟩ := Nat.exists_eq_add_of_le' h1
    rw [if_pos rfl, Nat.add_sub_cancel]
    unfold count2
    rw [if_neg (by omega), if_pos (by omega), if_pos (by omega), startOf_succ, filter_cnt _ l n h]
    exact Nat.add_comm _ _
  · rw [if_neg e]
    unfold count2
    by_cases h2 : j < i
    · rw [if_pos h2, if_pos (by omega)]
    · rw [if_neg h2, if_neg (by omega)]
def count3 (K : Nat → Nat) (l : List Nat) (j v : Nat) : Nat := startOf K l v + ((l.take j).filter fun p => K p == v).length
theorem count3_step (K : Nat → Nat) (l : List Nat) (j v : Nat) (hj : j < l.length) : (if v = K (l.getD j 0) then count3 K l j v + 1 else count3 K l j v) = count3 K l (j + 1) v := by
  unfold count3
  rw [List.take_succ_eq_append_getElem hj, List.filter_append, List.length_append, List.getD_eq_getElem?_getD, List.getElem?_eq_getElem hj, Option.getD_some]
  by_cases e : v = K l[j]
  · rw [if_pos e]
    have : (K l[j] == v) = true := by simp [e]
    simp [List.filter_cons, this]
    omega
  · rw [if_neg e]
    have : (K l[j] == v) = false := by simpa using fun h => e h.symm
    simp [List.filter_cons, this]

set_option maxHeartbeats 1000000 in
theorem sufByKey (w : World) (n many bp bk bo : Nat) (P K g0 : Nat → Nat) (hp : Nums w bp n P) (hk : Nums w bk n K) (ho : Nums w bo n g0) (d1 : bp ≠ bo) (d2 : bk ≠ bo) (hn : n ≤ 65536) (hm : many ≤ 65536) (hK : ∀ i, i < n → K i < many)
    (hP : (tabOf n P).Perm (List.range n)) :
    Calls Try.prog 53 #[.slice (some ⟨bp, 0, none⟩) n n, .slice (some ⟨bk, 0, none⟩) n n, .int .i64 many, .slice (some ⟨bo, 0, none⟩) n n] w fun e w' =>
      e = .returned (.tuple #[]) ∧ Nums w' bo n (fun i => (sortBy many K (tabOf n P)).getD i 0) ∧ Keeps (· = bo) w w' := by
  obtain ⟨m1, hm1⟩ : ∃ m1, many + 1 = m1 := ⟨_, rfl⟩
  have hq : (many : Int) + 1 = (m1 : Int) := by omega
  have hmk := make_int m1 (by omega)
  have HK := Lib.hid hK
  have HP := Lib.hid hP
  clear hK hP
  have hpl := hp.lt
  have hkl := hk.lt
  have hol := ho.lt
  go_enter Try.func53, Try.ntmps53
  go_wp2
  have hA : Below w.heap.size w (w.alloc (.cells (madeCells #[.int .i64 0] m1) 3)) := (Below.refl _ _).alloc (Nat.le_refl _) _
  have hN : Nums (w.alloc (.cells (madeCells #[.int .i64 0] m1) 3)) w.heap.size m1 (count1 K 0) := (Nums.made w m1).congr fun i _ => by cases i <;> rfl
  have HN := Lib.hid hN
  have HPK := Lib.hid hp
  have HKK := Lib.hid hk
  have HOK := Lib.hid ho
  clear hN hmk hq hp hk ho
  obtain ⟨bc, hbc⟩ : ∃ bc, w.heap.size = bc := ⟨_, rfl⟩
  rw [hbc] at HN hA ⊢
  go_loopw [19] (fun tk wr => ∃ k : Nat, k ≤ n ∧ tk = .int .i64 k ∧ Hid (Nums wr bc m1 (count1 K k)) ∧ Below bc w wr) (fun tk _ => n - (intOf tk).toNat)
  case atStart => exact ⟨0, Nat.zero_le _, rfl, HN.out, hA⟩
  case round =>
    obtain ⟨k, hk, rfl, hc, hB⟩ := hrel
    have hbs := hB.size
    by_cases hlt : k < n
    · have c := ((HKK.out.below (hbc ▸ hB)).cell hlt)
      have hKk := HK.out k hlt
      have c1 := hc.out.cell (i := K k + 1) (by omega)
      have c2 := hc.out.frozen (K k + 1)
      have hle := count1_le K k (K k + 1)
      have hle2 : count1 K k (K k + 1) ≤ 65536 := by omega
      generalize hx : count1 K k (K k + 1) = x at c1 hle2
      have HX := Lib.hid hx
      clear hx hle
      go_wp2
      go_roundw
      case rel =>
        refine ⟨k + 1, by omega, by go_num, ?_, hB.setCell (Nat.le_refl _) _⟩
        have := hc.out.set (K k + 1) (x + 1)
        refine Nums.congr this fun i _ => ?_
        rw [← HX.out]
        exact count1_step K k i
      case measure => simp [intOf]; omega
    · obtain rfl : k = n := by omega
      have hcl : ∀ i v, count2 K (tabOf k P) k i v ≤ k := fun i v => by
        unfold count2
        split
        · have := startOf_le K (tabOf k P) v; simpa using this
        · exact count1_le K k v
      have HCL := Lib.hid hcl
      clear hcl
      have hc2 := hc.out.congr (fun i _ => (count2_start K (tabOf k P) k i).symm)
      have HC2 := Lib.hid hc2
      clear hc2 hc hA HN
      go_wp2
      go_loopw [11] (fun tk wr => ∃ i : Nat, 1 ≤ i ∧ i ≤ m1 ∧ tk = .int .i64 i ∧ Hid (Nums wr bc m1 (count2 K (tabOf k P) k i)) ∧ Below bc w wr) (fun tk _ => m1 - (intOf tk).toNat)
      case atStart => exact ⟨1, Nat.le_refl _, by omega, rfl, HC2.out, hB⟩
      case round =>
        obtain ⟨i, hi1, hi, rfl, hc, hB⟩ := hrel
        have hbs := hB.size
        by_cases hlt : i < m1
        · obtain ⟨j, rfl⟩ := Nat.exists_eq_add_of_le' hi1
          have c1 := hc.out.cell (i := j + 1) hlt
          have c2 := hc.out.cell (i := j) (by omega)
          have c3 := hc.out.frozen (j + 1)
          have l1 := HCL.out (j + 1) (j + 1)
          have l2 := HCL.out (j + 1) j
          generalize hx : count2 K (tabOf k P) k (j + 1) (j + 1) = x at c1 l1
          generalize hy : count2 K (tabOf k P) k (j + 1) j = y at c2 l2
          have HX := Lib.hid hx
          have HY := Lib.hid hy
          clear hx hy
          have hq2 : ((j + 1 : Nat) : Int) - 1 = (j : Int) := by omega
          go_wp2
          go_region
          all_goals
            go_wp2
            go_roundw
            case rel =>
              refine ⟨j + 1 + 1, by omega, by omega, by go_num, ?_, below_set hB (Nat.le_refl _) _ _ _⟩
              have := (hc.out.set (j + 1) (x + y)).drewN 1
              refine Nums.congr this fun v _ => ?_
              rw [← HX.out, ← HY.out]
              exact count2_step K (tabOf k P) k (j + 1) v HP.out (by omega)
            case measure => simp [intOf]; omega
        · obtain rfl : i = m1 := by omega
          have hc3 := hc.out.congr (h := count3 K (tabOf k P) 0) (fun v hv => by unfold count2 count3; rw [if_pos hv]; simp)
          have HC3 := Lib.hid hc3
          have hkk : Keeps (· = bo) w wr := Keeps.of_below (by rw [hbc]; exact hB) _
          clear hc3 hc HC2
          go_wp2
          go_loopw [49] (fun tk wx => ∃ (j : Nat) (o : Nat → Nat), j ≤ k ∧ tk = .int .i64 j ∧ Hid (Nums wx bc i (count3 K (tabOf k P) j)) ∧ Hid (Nums wx bo k o) ∧ Hid (∀ q, q < j → o (placeOf K (tabOf k P) q) = (sortBy many K (tabOf k P)).getD (placeOf K (tabOf k P) q) 0) ∧ Keeps (· = bo) w wx) (fun tk _ => k - (intOf tk).toNat)
          case atStart => exact ⟨0, g0, Nat.zero_le _, rfl, HC3.out, HOK.out.keeps (Keeps.of_below (by rw [hbc]; exact hB) (fun _ => False)) (fun h => h), fun q hq => by omega, hkk⟩
          case round =>
            obtain ⟨j, o, hj, rfl, hc, ho, hq, hK⟩ := hrel
            by_cases hlt : j < k
            · have hPr : P j < k := by
                have := (HP.out.mem_iff (a := P j)).1 (List.mem_of_getElem? (tabOf_get k P j hlt))
                simpa using this
              have hKp := HK.out (P j) hPr
              have e1 : (tabOf k P).getD j 0 = P j := by rw [List.getD_eq_getElem?_getD, tabOf_get k P j hlt]; rfl
              have hat := sortBy_at many K (tabOf k P) j (P j) (tabOf_get k P j hlt) hKp
              have hpl : placeOf K (tabOf k P) j = count3 K (tabOf k P) j (K (P j)) := by rw [placeOf, e1]; rfl
              have hlen : (sortBy many K (tabOf k P)).length = k := by
                rw [(sortBy_perm many K (tabOf k P) fun x hx => HK.out x (by have := (HP.out.mem_iff (a := x)).1 hx; simpa using this)).length_eq, tabOf_length]
              have hpk : count3 K (tabOf k P) j (K (P j)) < k := by
                have := (List.getElem?_eq_some_iff.1 hat).1
                rw [hpl] at this
                omega
              have c1 := (HPK.out.keeps hK d1).cell hlt
              have c2 := (HKK.out.keeps hK d2).cell hPr
              have c3 := hc.out.cell (i := K (P j)) (by omega)
              have c4 := hc.out.frozen (K (P j))
              have c5 := ho.out.cell hpk
              have c6 := ho.out.frozen (count3 K (tabOf k P) j (K (P j)))
              generalize hx : count3 K (tabOf k P) j (K (P j)) = x at c3 c5 c6 hpk hpl
              have HX := Lib.hid hx
              have HPL := Lib.hid hpl
              have HAT := Lib.hid hat
              have HE := Lib.hid e1
              clear hx hat hpl e1
              have hne : bc ≠ bo := by omega
              go_wp2
              go_roundw
              case rel =>
                refine ⟨j + 1, fun q => if q = x then P j else o q, by omega, by go_num, ?_, ?_, ?_, ?_⟩
                · have := (hc.out.setOther (a := ⟨bo, x, none⟩) hne (.int .i64 (P j : Nat))).set (K (P j)) (x + 1)
                  refine Nums.congr this fun v _ => ?_
                  have hs := count3_step K (tabOf k P) j v (by simpa using hlt)
                  rw [HE.out] at hs
                  rw [← hs]
                  by_cases e : v = K (P j)
                  · rw [if_pos e, if_pos e, e, HX.out]
                  · rw [if_neg e, if_neg e]
                · exact (ho.out.set x (P j)).setOther (Ne.symm hne) _
                · intro q hq2
                  show (if placeOf K (tabOf k P) q = x then P j else o (placeOf K (tabOf k P) q)) = _
                  by_cases e : placeOf K (tabOf k P) q = x
                  · rw [if_pos e, e, List.getD_eq_getElem?_getD, ← HPL.out, HAT.out]; rfl
                  · rw [if_neg e]
                    rcases Nat.lt_succ_iff_lt_or_eq.1 hq2 with h1 | rfl
                    · exact hq.out q h1
                    · exact absurd HPL.out e
                · exact (hK.setCell (a := ⟨bo, x, none⟩) rfl _).setCell' (a := ⟨bc, K (P j), none⟩) (by show w.heap.size ≤ bc; omega) _
              case measure => simp [intOf]; omega
            · obtain rfl : j = k := by omega
              have hlen : (sortBy many K (tabOf j P)).length = j := by
                rw [(sortBy_perm many K (tabOf j P) fun x hx => HK.out x (by have := (HP.out.mem_iff (a := x)).1 hx; simpa using this)).length_eq, tabOf_length]
              have hfin := ho.out.congr (h := fun i => (sortBy many K (tabOf j P)).getD i 0) fun q hq2 => by
                obtain ⟨i2, h1, h2⟩ := sortBy_from many K (tabOf j P) q (by omega)
                rw [← h2]
                exact hq.out i2 (by simpa using h1)
              clear hlen
              go_wp2
              go_end0
              exact ⟨rfl, hfin, hK⟩
end Go.Proofs.Ythgnapngjmgkcaa
