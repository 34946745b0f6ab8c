import Derived.Test.YthgnapngjmgkcaaSfxA
import Derived.Test.YthgnapngjmgkcaaFmM
import Derived.Deep.AppendLies
/- Package bwt: isClosed, Turn, Counts. -/
namespace Go.Proofs.Ythgnapngjmgkcaa
open Go.RowKit

theorem sa_unique {s sa sa' : List Nat} (h : IsSA s sa) (h' : IsSA s sa') : sa = sa' :=
  List.Perm.eq_of_pairwise (fun _ _ _ _ a b => absurd b (slt_asymm a)) h.2 h'.2 (h.1.trans h'.1.symm)

theorem bwtClosed (w : World) (v : Value) (s : List Nat) (hc : Closed s) (hs : s.length ≤ 65536) (hv : Sl w v (nats s)) :
    Calls Try.prog 55 #[v] w fun e w' => e = .returned (.bool true) ∧ w = w' := by
  obtain ⟨n, hn⟩ : ∃ n, s.length = n := ⟨_, rfl⟩
  have h0 := hc.1
  obtain ⟨b, off, cap, rfl, hlc, hcm, hcl⟩ := hv.full (by simpa using h0)
  rw [nats_length] at hlc ⊢
  rw [hn] at h0 hlc hs ⊢
  have hlast := (hc.2 (n - 1) (by omega)).2 (by omega)
  have cl := hcl (n - 1) _ (nats_get s (n - 1) (by omega))
  have hx : s[n - 1]'(by omega) = 0 := by rw [List.getD_eq_getElem?_getD, List.getElem?_eq_getElem (by omega)] at hlast; exact hlast
  rw [hx] at cl
  have hn1 : (n : Int) - 1 = ((n - 1 : Nat) : Int) := by omega
  have HN := Lib.hid hn
  have HCL := Lib.hid hcl
  have HC := Lib.hid hc
  clear hn hcl hc hv hlast hx
  go_enter Try.func55, Try.ntmps55
  go_wp2
  go_loop [7] (fun tk => ∃ k : Nat, k ≤ n ∧ tk = .int .i64 k) (fun tk => n - (intOf tk).toNat)
  case atStart => exact ⟨0, Nat.zero_le _, rfl⟩
  case round =>
    obtain ⟨k, hk, rfl⟩ := hrel
    by_cases hlt : k < n
    · have hks : k < s.length := by rw [HN.out]; exact hlt
      have c := HCL.out k _ (nats_get s k hks)
      have hz := HC.out.2 k hks
      rw [List.getD_eq_getElem?_getD, List.getElem?_eq_getElem hks] at hz
      simp only [Option.getD_some] at hz
      rw [HN.out] at hz
      generalize s[k] = x at c hz
      have t1 : decide (((x : Nat) : Int) < 0) = false := by simp
      by_cases h : x = 0
      · have := hz.1 h
        subst h
        have t3 : decide (k < n - 1) = false := decide_eq_false (by omega)
        clear hz this
        go_wp2
        go_round
        case rel => exact ⟨k + 1, by omega, by go_num⟩
        case measure => simp [intOf]; omega
      · have t2 : (((x : Nat) : Int) == 0) = false := by simp; omega
        clear hz
        go_wp2
        go_round
        case rel => exact ⟨k + 1, by omega, by go_num⟩
        case measure => simp [intOf]; omega
    · obtain rfl : k = n := by omega
      go_wp2
      go_ret
      exact ⟨rfl, rfl⟩

def TurnOk (w : World) (s : List Nat) (e : Ending) (w' : World) : Prop :=
  ∃ (v : Value) (sa : List Nat), e = .returned (.tuple #[v, .int .i64 0]) ∧ IsSA s sa ∧ w'.ownsRow w.heap.size 3 1 v s.length (nats (turnedOf s sa)) ∧ Below w.heap.size w w'

theorem turned_next {s sa : List Nat} (h : IsSA s sa) {k : Nat} (hk : k < s.length) : (turnedOf s sa).take (k + 1) = (turnedOf s sa).take k ++ [preSym s (sa.getD k 0)] := by
  have hl : k < (turnedOf s sa).length := by rw [turnedOf_length h]; exact hk
  rw [List.take_succ_eq_append_getElem hl, ← turnedOf_get h hk, List.getD_eq_getElem?_getD, List.getElem?_eq_getElem hl]; rfl
theorem nats_app (A : List Nat) (b : Nat) : nats (A ++ [b]) = nats A ++ [.int .i64 b] := by simp [nats]
set_option maxRecDepth 100000 in
set_option maxHeartbeats 1000000 in
theorem bwtTurn (w : World) (v : Value) (s : List Nat) (hc : Closed s) (hs : s.length ≤ 65536) (hv : Sl w v (nats s)) :
    Calls Try.prog 34 #[v] w (TurnOk w s) := by
  have K1 := bwtClosed w v s hc hs hv
  have K2 := arrayOk w v s hc.1 hs hv
  obtain ⟨n, hn⟩ : ∃ n, s.length = n := ⟨_, rfl⟩
  have h0 := hc.1
  obtain ⟨b, off, cap, rfl, hlc, hcm, hcl⟩ := hv.full (by simpa using h0)
  rw [nats_length] at hlc K1 K2 ⊢
  rw [hn] at h0 hlc hs K1 K2 ⊢
  have HN := Lib.hid hn
  have HCL := Lib.hid hcl
  have HC := Lib.hid hc
  have H1 := Lib.hid K1
  have H2 := Lib.hid K2
  obtain ⟨i0, hi0, hz0, hz1, hz2⟩ := info_parts Try.info_int
  clear hn hcl hc hv K1 K2
  go_enter Try.func34, Try.ntmps34
  go_wp2_with (first
    | (go_at_call 55; refine H1.out.mono ?_; rintro e w' ⟨rfl, rfl⟩)
    | (go_at_call 33; refine H2.out.mono ?_; rintro e w1 ⟨bs, sa, rfl, hb, hnum, hsa, hB⟩
       rw [HN.out] at hnum ⊢
       have HSA := Lib.hid hsa
       have HNUM := Lib.hid hnum
       clear hsa hnum))
  have hBs := hB.size
  have hlt := HNUM.out.lt
  have ho0 : w1.ownsRow w.heap.size 3 1 (.slice none 0 0) 0 (nats ((turnedOf s sa).take 0)) := World.ownsRow_nil _ _ _ _
  have HO0 := Lib.hid ho0
  clear ho0
  go_loopw [6, 27] (fun ta tk wr => ∃ (k : Nat) (va : Value), k ≤ n ∧ tk = .int .i64 k ∧ va = ta ∧ Hid (wr.ownsRow w.heap.size 3 1 va k (nats ((turnedOf s sa).take k))) ∧ Hid (Nums wr bs n (fun i => sa.getD i 0)) ∧ (∀ j, va.ownBlock = some j → j ≠ bs) ∧ Below w.heap.size w wr) (fun _ tk _ => n - (intOf tk).toNat)
  case atStart => exact ⟨0, _, Nat.zero_le _, rfl, rfl, HO0.out, HNUM.out, (fun j e => by cases e), hB⟩
  case round =>
    obtain ⟨k, va, hk, rfl, rfl, ho, hnu, hne, hBr⟩ := hrel
    by_cases hlt : k < n
    · have hks : k < s.length := by rw [HN.out]; exact hlt
      have cp := hnu.out.cell hlt
      have hp := sa_lt HSA.out hks
      rw [HN.out] at hp
      have hnx := turned_next HSA.out hks
      generalize sa.getD k 0 = p at cp hp hnx
      obtain ⟨q, hq⟩ : ∃ q, (p + n - 1) % n = q := ⟨_, rfl⟩
      have hqn : q < n := by rw [← hq]; exact Nat.mod_lt _ h0
      have hqi : ((p : Int) + (n : Int) - 1) % (n : Int) = (q : Int) := by rw [← hq, Int.natCast_emod]; congr 1; omega
      have hx : preSym s p = s.getD q 0 := by rw [preSym, HN.out, hq]
      have hqs : q < s.length := by rw [HN.out]; exact hqn
      have cx := cell_below hBr (HCL.out q _ (nats_get s q hqs))
      rw [List.getD_eq_getElem?_getD, List.getElem?_eq_getElem hqs, Option.getD_some] at hx
      generalize s[q] = x at cx hx
      rw [hx] at hnx
      have HNX := Lib.hid hnx
      have hbs := hBr.size
      have hna := hnu.out.lt
      clear hq hx hnx
      go_wp2_with (at_builtin; refine wpList_append_lies _ rfl _ _ 43 rfl w.heap.size 3 i0 _ 1 8 Try.underlying43 hi0 hz0 hz1 hz2 rfl (by omega) va k _ rfl (ho.out.alloc _) ⟨wr.heap.size, 0, none⟩ 1 1 [.int .i64 (x : Nat)] rfl rfl (World.news_of_block (cs := #[.int .i64 (x : Nat)]) (t := 3) (fr := (0, 0)) (heap_alloc_new wr _)) (by simp [Value.oneCell']) (by omega) (by unfold maxLen; omega) (by omega) (by simp; omega) (wr.heap.size + 1) (by simp) ?_; intro gg cap2 w2 hown1 hgrow hat hlt2)
      go_roundw
      case rel =>
        refine ⟨k + 1, _, by omega, by go_num, rfl, ?_, ?_, ?_, ?_⟩
        · rw [HNX.out, nats_app]; exact hown1
        · have hA : Below wr.heap.size wr (wr.alloc (.cells #[.int .i64 (x : Nat)] 3)) := (Below.refl _ _).alloc (Nat.le_refl _) _
          exact ((hnu.out.below hA).keeps (Keeps.of_grownBy (S := fun i => some i = va.ownBlock) hgrow (fun i e => e.symm)) (fun e => hne bs e.symm rfl))
        · intro j e
          have e2 : gg = j := by simpa [Value.ownBlock] using e
          subst e2
          rcases hat with h | h
          · exact hne _ h
          · omega
        · exact ((hBr.alloc hBr.size _).grown hgrow (by have := hBr.size; simp; omega) (fun j hj => (ho.out.lt j hj).1))
      case measure => simp [intOf]; omega
    · obtain rfl : k = n := by omega
      have hlen := turnedOf_length HSA.out
      have hsn := HN.out
      have hf := ho.out
      rw [List.take_of_length_le (by omega)] at hf
      have HF := Lib.hid hf
      clear hf hlen
      clear hsn
      go_wp2
      go_ret2
      exact ⟨va, sa, rfl, HSA.out, by rw [HN.out]; exact HF.out, hBr⟩

/-! Counts -/
def atK (l : List Nat) (i : Nat) : Nat := l.getD i 0
theorem startOf_cnt (K : Nat → Nat) (n v : Nat) : startOf K (List.range n) v = cnt (fun i => decide (K i < v)) n := by
  rw [startOf, (sortBy_filter v K (List.range n)).length_eq, filter_cnt _ _ n (List.Perm.refl _)]
theorem startOf_lessN (l : List Nat) (v : Nat) : startOf (atK l) (List.range l.length) v = lessN l v := startOf_cnt _ _ _
theorem cnt_shift (f : Nat → Bool) (n : Nat) (h : 0 < n) : cnt (fun p => f ((p + n - 1) % n)) n = cnt f n := by
  obtain ⟨m, rfl⟩ := Nat.exists_eq_add_of_le' h
  rw [show m + 1 = 1 + m by omega, cnt_add]
  have e1 : cnt (fun p => f ((p + (1 + m) - 1) % (1 + m))) 1 = if f m then 1 else 0 := by
    simp only [cnt, Nat.zero_add]
    rw [show 1 + m - 1 = m by omega, Nat.mod_eq_of_lt (by omega)]
  have e2 : cnt (fun j => f ((1 + j + (1 + m) - 1) % (1 + m))) m = cnt f m := cnt_congr m fun j hj => by
    rw [show 1 + j + (1 + m) - 1 = j + (1 + m) by omega, Nat.add_mod_right, Nat.mod_eq_of_lt (by omega)]
  rw [e1, e2, show 1 + m = m + 1 by omega]
  show _ = cnt f m + _
  omega
theorem lessN_turned {s sa : List Nat} (h : IsSA s sa) (h0 : 0 < s.length) (c : Nat) : lessN (turnedOf s sa) c = lessN s c := by
  rw [lessN, turnedOf_length h]
  have e : cnt (fun q => decide ((turnedOf s sa).getD q 0 < c)) s.length = cnt (fun q => decide (preSym s (sa.getD q 0) < c)) s.length := cnt_congr _ fun q hq => by rw [turnedOf_get h hq]
  rw [e, cnt_perm (f := fun p => decide (preSym s p < c)) h.1]
  exact cnt_shift (fun p => decide (s.getD p 0 < c)) s.length h0
theorem turnedOf_mem {s sa : List Nat} (h : IsSA s sa) (h0 : 0 < s.length) : ∀ x ∈ turnedOf s sa, x ∈ s := by
  intro x hx
  obtain ⟨p, hp, rfl⟩ := List.mem_map.1 hx
  have hm : (p + s.length - 1) % s.length < s.length := Nat.mod_lt _ h0
  rw [preSym, List.getD_eq_getElem?_getD, List.getElem?_eq_getElem hm]
  exact List.getElem_mem hm

set_option maxRecDepth 100000 in
set_option maxHeartbeats 1000000 in
theorem bwtCounts (w : World) (v : Value) (l : List Nat) (h0 : 0 < l.length) (hs : l.length ≤ 65536) (hlt : ∀ x ∈ l, x < 512) (hv : Sl w v (nats l)) :
    Calls Try.prog 35 #[v, .int .i64 9] w fun e w' => e = .returned (.slice (some ⟨w.heap.size, 0, none⟩) 513 513) ∧ Nums w' w.heap.size 513 (lessN l) ∧ Below w.heap.size w w' := by
  obtain ⟨n, hn⟩ : ∃ n, l.length = n := ⟨_, rfl⟩
  obtain ⟨b, off, cap, rfl, hlc, hcm, hcl⟩ := hv.full (by simpa using h0)
  rw [nats_length] at hlc ⊢
  rw [hn] at h0 hlc hs ⊢
  have hmk : ∀ W : World, (Instr.makeSlice 43 (.int .i64 513) (.int .i64 513)).run Try.prog W = .ok (.slice (some ⟨W.heap.size, 0, none⟩) 513 513) (W.alloc (.cells (madeCells #[.int .i64 0] 513) 3)) := make_int 513 (by omega)
  have hw1 : wrap64 (2 ^ (max (0 : Int) (min 16 9)).toNat) = 512 := by rw [show (max (0 : Int) (min 16 9)).toNat = 9 by decide]; simp [wrap64]
  have hw2 : wrap64 (512 + 1) = 513 := by simp [wrap64]
  have HN := Lib.hid hn
  have HCL := Lib.hid hcl
  have HLT := Lib.hid hlt
  clear hn hcl hlt hv
  go_enter Try.func35, Try.ntmps35
  go_wp2
  have hA : Below w.heap.size w (w.alloc (.cells (madeCells #[.int .i64 0] 513) 3)) := (Below.refl _ _).alloc (Nat.le_refl _) _
  have hN : Nums (w.alloc (.cells (madeCells #[.int .i64 0] 513) 3)) w.heap.size 513 (count1 (atK l) 0) := (Nums.made w 513).congr fun i _ => by cases i <;> rfl
  have HNN := Lib.hid hN
  clear hN hmk hw2
  obtain ⟨bc, hbc⟩ : ∃ bc, w.heap.size = bc := ⟨_, rfl⟩
  rw [hbc] at HNN hA ⊢
  obtain ⟨W1, hW1⟩ : ∃ W1, w.alloc (.cells (madeCells #[.int .i64 0] 513) 3) = W1 := ⟨_, rfl⟩
  rw [hW1] at HNN hA ⊢
  clear hW1
  go_loopw [19] (fun tk wr => ∃ k : Nat, k ≤ n ∧ tk = .int .i64 k ∧ Hid (Nums wr bc 513 (count1 (atK l) k)) ∧ Below bc w wr) (fun tk _ => n - (intOf tk).toNat)
  case atStart => exact ⟨0, Nat.zero_le _, rfl, HNN.out, hA⟩
  case round =>
    obtain ⟨k, hk, rfl, hc, hB⟩ := hrel
    have hbs := hB.size
    by_cases hlt : k < n
    · have hkl : k < l.length := by rw [HN.out]; exact hlt
      have c := cell_below (hbc ▸ hB) (HCL.out k _ (nats_get l k hkl))
      have hx := HLT.out _ (List.getElem_mem hkl)
      have hK : atK l k = l[k] := by rw [atK, List.getD_eq_getElem?_getD, List.getElem?_eq_getElem hkl]; rfl
      generalize l[k] = x at c hx hK
      have c1 := hc.out.cell (i := x + 1) (by omega)
      have c2 := hc.out.frozen (x + 1)
      have hle := count1_le (atK l) k (x + 1)
      generalize hy : count1 (atK l) k (x + 1) = y at c1 hle
      have HY := Lib.hid hy
      have HK := Lib.hid hK
      have m1 : max (0 : Int) ((x : Int) + 1) = (x : Int) + 1 := Int.max_eq_right (by omega)
      have m2 : decide ((x : Int) < 512) = true := decide_eq_true (by omega)
      clear hy hK
      go_wp2
      go_roundw
      case rel =>
        refine ⟨k + 1, by omega, by go_num, ?_, hB.setCell (Nat.le_refl _) _⟩
        have := hc.out.set (x + 1) (y + 1)
        refine Nums.congr this fun i _ => ?_
        have hst := count1_step (atK l) k i
        rw [HK.out, HY.out] at hst
        exact hst
      case measure => simp [intOf]; omega
    · obtain rfl : k = n := by omega
      have hcl2 : ∀ i v, count2 (atK l) (List.range k) k i v ≤ k := fun i v => by
        unfold count2
        split
        · have := startOf_le (atK l) (List.range k) v; simpa using this
        · exact count1_le (atK l) k v
      have HCL2 := Lib.hid hcl2
      clear hcl2
      have hc2 := hc.out.congr (fun i _ => (count2_start (atK l) (List.range k) k i).symm)
      have HC2 := Lib.hid hc2
      clear hc2 hc hA HNN
      go_wp2
      go_loopw [9] (fun tk wr => ∃ i : Nat, 1 ≤ i ∧ i ≤ 513 ∧ tk = .int .i64 i ∧ Hid (Nums wr bc 513 (count2 (atK l) (List.range k) k i)) ∧ Below bc w wr) (fun tk _ => 513 - (intOf tk).toNat)
      case atStart => exact ⟨1, Nat.le_refl _, by omega, rfl, HC2.out, hB⟩
      case round =>
        obtain ⟨i, hi1, hi, rfl, hc, hB⟩ := hrel
        have hbs := hB.size
        by_cases hlt : i < 513
        · obtain ⟨j, rfl⟩ := Nat.exists_eq_add_of_le' hi1
          have c1 := hc.out.cell (i := j + 1) hlt
          have c2 := hc.out.cell (i := j) (by omega)
          have c3 := hc.out.frozen (j + 1)
          have l1 := HCL2.out (j + 1) (j + 1)
          have l2 := HCL2.out (j + 1) j
          generalize hx : count2 (atK l) (List.range k) k (j + 1) (j + 1) = x at c1 l1
          generalize hy : count2 (atK l) (List.range k) k (j + 1) j = y at c2 l2
          have HX := Lib.hid hx
          have HY := Lib.hid hy
          clear hx hy
          have hq2 : ((j + 1 : Nat) : Int) - 1 = (j : Int) := by omega
          go_wp2
          go_region
          all_goals
            go_wp2
            go_roundw
            case rel =>
              refine ⟨j + 1 + 1, by omega, by omega, by go_num, ?_, below_set hB (Nat.le_refl _) _ _ _⟩
              have := (hc.out.set (j + 1) (x + y)).drewN 1
              refine Nums.congr this fun v _ => ?_
              rw [← HX.out, ← HY.out]
              exact count2_step (atK l) (List.range k) k (j + 1) v (List.Perm.refl _) (by omega)
            case measure => simp [intOf]; omega
        · obtain rfl : i = 513 := by omega
          have hc3 := hc.out.congr (h := lessN l) (fun v hv => by unfold count2; rw [if_pos hv, ← HN.out, startOf_lessN])
          have HC3 := Lib.hid hc3
          clear hc3 hc HC2
          go_wp2
          go_ret
          exact ⟨by rw [hbc]; rfl, by rw [hbc]; exact HC3.out, by rw [hbc]; exact hB⟩
end Go.Proofs.Ythgnapngjmgkcaa
