import Derived.Test.YthgnapngjmgkcaaFm3
import Derived.Test.YthgnapngjmgkcaaHits
/- Package fm: Locate. -/
namespace Go.Proofs.Ythgnapngjmgkcaa
open Go.RowKit Go.Shelf

/-- where texts begin, and one more -/
def stL (l : List (List UInt8)) : List Nat := (List.range (l.length + 1)).map (stOf l)
@[simp] theorem stL_length (l : List (List UInt8)) : (stL l).length = l.length + 1 := by simp [stL]
theorem stL_get (l : List (List UInt8)) (d : Nat) (h : d ≤ l.length) : (stL l)[d]? = some (stOf l d) := by simp [stL, show d < l.length + 1 by omega]
theorem stL_getD (l : List (List UInt8)) (d : Nat) (h : d ≤ l.length) : (stL l).getD d 0 = stOf l d := by rw [List.getD_eq_getElem?_getD, stL_get l d h]; rfl
theorem stOf_lt (l : List (List UInt8)) {a b : Nat} (h : a < b) (hb : b ≤ l.length) : stOf l a < stOf l b := by
  have := stOf_mono l (Nat.le_of_lt h) hb; omega
/-- where a place is sought among them -/
theorem stL_find (l : List (List UInt8)) (d o : Nat) (hd : d < l.length) (ho : o ≤ (l.getD d []).length) :
    (zsOf (stL l)).countP (fun z => decide (z < ((stOf l d + o : Nat) : Int))) = (if o = 0 then d else d + 1) ∧ (zsOf (stL l)).contains ((stOf l d + o : Nat) : Int) = decide (o = 0) := by
  have hs := stOf_succ l d hd
  have hlt : ∀ j, j ≤ l.length → (stOf l j < stOf l d + o ↔ j < (if o = 0 then d else d + 1)) := by
    intro j hj
    by_cases h0 : o = 0
    · rw [if_pos h0, h0]
      constructor
      · intro h
        rcases Nat.lt_or_ge j d with h' | h'
        · exact h'
        · have := stOf_mono l h' hj; omega
      · intro h; have := stOf_lt l h (by omega); omega
    · rw [if_neg h0]
      constructor
      · intro h
        rcases Nat.lt_or_ge j (d + 1) with h' | h'
        · exact h'
        · have := stOf_mono l h' hj; omega
      · intro h
        rcases Nat.eq_or_lt_of_le (Nat.lt_succ_iff.1 h) with rfl | h'
        · omega
        · have := stOf_lt l h' (by omega); omega
  constructor
  · rw [zsOf, stL, List.map_map, List.countP_map]
    have hle : (if o = 0 then d else d + 1) ≤ l.length + 1 := by split <;> omega
    generalize (if o = 0 then d else d + 1) = c at hlt hle
    rw [show l.length + 1 = c + (l.length + 1 - c) by omega, List.range_add, List.countP_append, List.countP_eq_length.2, List.countP_eq_zero.2, List.length_range]
    · omega
    · intro a ha
      obtain ⟨j, hj, rfl⟩ := List.mem_map.1 ha
      rw [List.mem_range] at hj
      have := hlt (c + j) (by omega)
      simp only [Function.comp_apply, decide_eq_true_eq, Int.ofNat_lt]
      omega
    · intro a ha
      rw [List.mem_range] at ha
      have := hlt a (by omega)
      simp only [Function.comp_apply, decide_eq_true_eq, Int.ofNat_lt]
      omega
  · rw [Bool.eq_iff_iff, List.contains_iff_mem, zsOf, stL, List.map_map, List.mem_map, decide_eq_true_eq]
    constructor
    · rintro ⟨j, hj, e⟩
      rw [List.mem_range] at hj
      have e : stOf l j = stOf l d + o := by simp at e; omega
      rcases Nat.lt_trichotomy j d with h | h | h
      · have := stOf_lt l h (by omega); omega
      · subst h; omega
      · have := stOf_mono l (show d + 1 ≤ j by omega) (by omega); omega
    · rintro rfl
      exact ⟨d, by rw [List.mem_range]; omega, by simp⟩
theorem stand_spot {l : List (List UInt8)} {sa : List Nat} {p : List UInt8} {fr tt i : Nat} (h : IsSA (rowOf l) sa) (hp : p ≠ []) (hi : Ival (rowOf l) sa (p.map sh) fr tt) (h1 : fr ≤ i) (h2 : i < tt) :
    ∃ d o, d < l.length ∧ o < (l.getD d []).length ∧ sa.getD i 0 = stOf l d + o ∧ spot l (sa.getD i 0) = (d, o) := by
  have hb : i < (rowOf l).length := by have := hi.2.1; omega
  have hq := sa_lt h hb
  have hs := (hi.2.2 _ hq).1 ⟨by rw [rk_sa h hb]; omega, by rw [rk_sa h hb]; omega⟩
  have hlen := rowOf_length l
  rcases Nat.lt_or_ge (sa.getD i 0) (stOf l l.length) with h1 | h1
  · obtain ⟨a, b, c⟩ := spot_spec l _ h1
    rw [c, stands_prefix l p _ _ a b] at hs
    have := hit_place hp hs
    have : 0 < p.length := List.length_pos_iff.2 hp
    exact ⟨_, _, a, by omega, c, rfl⟩
  · rw [show sa.getD i 0 = stOf l l.length by omega] at hs
    exact absurd hs (stands_last l p hp)
def spotsTo (l : List (List UInt8)) (sa : List Nat) (fr k : Nat) : List (Nat × Nat) := (List.range k).map fun j => spot l (sa.getD (fr + j) 0)
theorem spotsTo_succ (l : List (List UInt8)) (sa : List Nat) (fr k : Nat) : spotsTo l sa fr (k + 1) = spotsTo l sa fr k ++ [spot l (sa.getD (fr + k) 0)] := by simp [spotsTo, List.range_succ]
@[simp] theorem spotsTo_length (l : List (List UInt8)) (sa : List Nat) (fr k : Nat) : (spotsTo l sa fr k).length = k := by simp [spotsTo]
theorem stOf_row (l : List (List UInt8)) (d : Nat) (h : d ≤ l.length) : stOf l d < (rowOf l).length := by
  have := stOf_mono l h (Nat.le_refl _)
  have := rowOf_length l
  omega

theorem Try.info_hit : (Try.prog.info? 36).map (fun i => (i.zero, i.size, i.bytes)) = some (some (.agg #[.int .i64 0, .int .i64 0]), 2, 16) := by kernel_rfl
def LocOk (w : World) (l : List (List UInt8)) (p : List UInt8) (e : Ending) (w' : World) : Prop := ∃ v, e = .returned v ∧ HitSl w' v (hitsOf l p) ∧ Below w.heap.size w w'

set_option maxRecDepth 100000 in
set_option maxHeartbeats 4000000 in
theorem idxLocate (b : Nat) (l : List (List UInt8)) (sa : List Nat) (w : World) (v : Value) (p : List UInt8) (h : IsIdx w b (rowOf l) sa (stL l)) (h0 : 0 < p.length) (hp : p.length ≤ 1048576) (hv : Sl w v (bytes p)) :
    Calls Try.prog 13 #[.pointer (some ⟨b, 0, none⟩), v] w (LocOk w l p) := by
  have hf := idxFind b _ sa _ w v p h h0 hp hv
  have hn := h.2.2.1
  have H := Lib.hid h
  have hlt := rowOf_length l
  obtain ⟨ao, cap, rfl, hlc, hcm⟩ := hv.form
  have HF := Lib.hid hf
  have hll : l.length ≤ stOf l l.length := by have := stOf_mono l (Nat.zero_le l.length) (Nat.le_refl _); simp at this; omega
  obtain ⟨h1, h2, h3, h4, bt, bl, bm, bp, br, wd, m, vs, f, hm, c0, c1, c2, c3, c4, c5, t0, t1, t2, t3, t4, t5, t6⟩ := h
  obtain ⟨bb, off, cap2, rfl, hlc2, hcm2, hcs⟩ := t2.full (by simp)
  rw [nats_length, stL_length] at c2 hlc2
  have H1 := Lib.hid h1
  have HCS := Lib.hid hcs
  clear hf hv h4 hm c0 c1 c3 c4 c5 t0 t1 t2 t3 t4 t5 t6 h1 h2 hcs
  rw [bytes_length] at HF hlc ⊢
  have hpne : p ≠ [] := by intro e; rw [e] at h0; simp at h0
  have HPN := Lib.hid hpne
  obtain ⟨len, hlen⟩ : ∃ len, p.length = len := ⟨_, rfl⟩
  rw [hlen] at HF h0 hp hlc ⊢
  obtain ⟨nd, hnd⟩ : ∃ nd, l.length = nd := ⟨_, rfl⟩
  have HND := Lib.hid hnd
  rw [hnd] at c2 hlc2
  have hndl : nd ≤ 65536 := by omega
  clear hlen hpne hnd hll hlt
  obtain ⟨i0, hi0, hz0, hz1, hz2⟩ := info_parts Try.info_hit
  go_enter Try.func13, Try.ntmps13
  go_wp2_with (go_at_call 21; refine HF.out.mono ?_; rintro e w1 ⟨fr, tt, rfl, hi, hle, hB⟩
               have hfr := hi.1
               have htt := hi.2.1
               have HI := Lib.hid hi
               clear hi)
  have ho0 : w1.ownsRow w.heap.size 36 2 (.slice none 0 0) 0 (hitCells (spotsTo l sa fr 0)) := World.ownsRow_nil _ _ _ _
  have HO0 := Lib.hid ho0
  clear ho0
  go_loopw [5, 8] (fun ta ti wr => ∃ (k : Nat) (va : Value), fr + k ≤ tt ∧ ti = .int .i64 (fr + k : Nat) ∧ va = ta ∧ Hid (wr.ownsRow w.heap.size 36 2 va k (hitCells (spotsTo l sa fr k))) ∧ Below w.heap.size w wr) (fun _ ti _ => tt - (intOf ti).toNat)
  case atStart => exact ⟨0, _, by omega, by simp, rfl, HO0.out, hB⟩
  case round =>
    obtain ⟨k, va, hk, rfl, rfl, ho, hBr⟩ := hrel
    by_cases hlt : fr + k < tt
    · obtain ⟨d, o, hd, ho2, hq, hsp⟩ := stand_spot H1.out HPN.out HI.out (i := fr + k) (by omega) hlt
      have hfk : fr + k < (rowOf l).length := by omega
      have hql := sa_lt H1.out hfk
      have hrk := rk_sa H1.out hfk
      have hnx := spotsTo_succ l sa fr k
      rw [hsp] at hnx
      obtain ⟨hc1, hc2⟩ := stL_find l d o hd (by omega)
      have hstl := stOf_row l d (by omega)
      have hdn : d < nd := by rw [← HND.out]; exact hd
      rw [hq] at hql hrk
      have hpl := fun W (hb : Below wr.heap.size wr W) => idxPlace b _ sa _ W (stOf l d + o) (fr + k) ((H.out.below hBr).below hb) hql hrk
      have cst := cell_below hBr (HCS.out d (.int .i64 (stOf l d : Nat)) (by simp [nats, stL_get l d (by omega)]))
      have hbin := fun W (hb : Below wr.heap.size wr W) => Try.slices_BinarySearch_int bb off (nd + 1) cap2 (zsOf (stL l)) ((stOf l d + o : Nat) : Int) W (by simp [HND.out]) (by omega) (fun j hj => by
        have hj' : j < (stL l).length := by simpa using hj
        rw [List.getD_eq_getElem?_getD, zsOf_get _ j hj']
        exact cell_below hb (cell_below hBr (HCS.out j _ (nats_get _ j hj')))) (by
        refine List.Pairwise.sublist (List.take_sublist _ _) ?_
        rw [zsOf, stL, List.map_map, List.pairwise_map]
        refine (List.Pairwise.and_mem.1 List.pairwise_lt_range).imp fun {a b} h => ?_
        have h1 := h.2.1
        have h2 := h.2.2
        rw [List.mem_range] at h1
        have := stOf_lt l h2 (by omega)
        simp only [Function.comp_apply]
        omega)
      rw [List.take_of_length_le (show (zsOf (stL l)).length ≤ nd + 1 by simp [HND.out]), hc1, hc2] at hbin
      have hst2 : stOf l d + o ≤ 65536 := by omega
      generalize stOf l d = sd at hpl hbin cst hst2
      obtain ⟨at', hat'⟩ : ∃ at', sd + o = at' := ⟨_, rfl⟩
      rw [hat'] at hpl hbin hst2
      have e5 : (at' : Int) - (sd : Int) = (o : Int) := by omega
      have hq2 : ((d + 1 : Nat) : Int) - 1 = (d : Int) := by omega
      have HPL := Lib.hid hpl
      have HNX := Lib.hid hnx
      have c2' := cell_below hBr c2
      have hbs := hBr.size
      have hfk2 : fr + k < tt := hlt
      have hol : o ≤ at' := by omega
      have d1 : decide (fr + k < tt) = true := decide_eq_true hlt
      clear hpl hnx hq hsp hc1 hc2 hrk hql hstl ho2 hd hat'
      by_cases ho0 : o = 0
      all_goals
        simp only [ho0, if_true, if_false, decide_true, decide_false] at hbin
        have HBIN := Lib.hid hbin
        clear hbin ho0
        go_wp2_with (first
          | (go_at_call 22; refine (HPL.out _ (Below.refl _ _)).mono ?_; rintro e w2 ⟨rfl, hb2⟩
             have c3' := cell_below hb2 c2'
             have c4' := cell_below hb2 cst
             have hs2 := hb2.size)
          | (go_at_call 23; refine (HBIN.out _ hb2).mono ?_; rintro e w3 ⟨rfl, q, rfl⟩
             have ho1 := own_drewN (own_row_below ho.out hb2) q)
          | (at_builtin; refine wpList_append_lies _ rfl _ _ 32 rfl w.heap.size 36 i0 _ 2 16 Try.underlying32 hi0 hz0 hz1 hz2 rfl (by omega) va k _ rfl (ho1.alloc _) ⟨w2.heap.size, 0, none⟩ 1 1 [.int .i64 (d : Nat), .int .i64 (o : Nat)] rfl rfl (World.news_of_block (cs := #[.int .i64 (d : Nat), .int .i64 (o : Nat)]) (t := 36) (fr := (0, 0)) (heap_alloc_new (w2.drewN q) _)) (by simp [Value.oneCell']) (by omega) (by unfold maxLen; omega) (by omega) (by simp; omega) (w2.heap.size + 1) (by simp) ?_; intro gg cap3 w4 hown1 hgrow hat hlt2))
        go_roundw
        case rel =>
          refine ⟨k + 1, _, by omega, by rw [show ((fr + (k + 1) : Nat) : Int) = (fr : Int) + k + 1 by omega], rfl, ?_, ?_⟩
          · rw [HNX.out, hitCells_snoc]; exact hown1
          · have hB2 := below_up hBr hb2 hBr.size
            exact (((below_drewN hB2 q).alloc (below_drewN hB2 q).size _).grown hgrow (by have := hB2.size; simp; omega) (fun j hj => (ho1.lt j hj).1))
        case measure => simp [intOf]; omega
    · have hk2 : k = tt - fr := by omega
      have hperm := spots_perm H1.out HPN.out HI.out
      rw [← hk2] at hperm
      have hperm' : (spotsTo l sa fr k).Perm (hitsOf l p) := hperm
      have hso := hitsOf_sorted l p
      have HP := Lib.hid hperm'
      have HSO := Lib.hid hso
      have hkk : k ≤ 65536 := by omega
      have d1 : decide (fr + k < tt) = false := decide_eq_false hlt
      clear hperm hperm' hso hk2
      by_cases hk0 : k = 0
      · subst hk0
        have hnil : hitsOf l p = [] := by
          have := HP.out.length_eq
          rw [spotsTo_length] at this
          exact List.eq_nil_of_length_eq_zero this.symm
        have HNIL := Lib.hid hnil
        clear hnil
        rcases ho.out.2 with ⟨rfl, _⟩ | ⟨g, cap3, cur, rfl, _, _, _, hcm3, _⟩
        all_goals
          go_wp2_with (go_at_call 24; refine (AnyF.slices_SortFunc_none Try.sortHit _ _ _ _).mono ?_; rintro e w' ⟨rfl, rfl⟩)
          go_ret
          refine ⟨_, rfl, ?_, hBr⟩
          rw [HNIL.out]
          exact ⟨_, _, rfl, by simp, (by first | exact Nat.zero_le _ | (unfold maxLen at hcm3; exact hcm3)), fun e => absurd rfl e⟩
      · obtain ⟨g, cap3, cur, rfl, hbase, hgb, hnc, hcm3, hcs3, htake⟩ : ∃ g cap3 cur, va = .slice (some ⟨g, 0, none⟩) k cap3 ∧ w.heap.size ≤ g ∧ wr.heap[g]? = some (.cells cur 36 (0, 0)) ∧ k ≤ cap3 ∧ cap3 ≤ maxLen ∧ cur.size = cap3 * 2 ∧ cur.toList.take (k * 2) = hitCells (spotsTo l sa fr k) := by
          rcases ho.out.2 with ⟨_, h0⟩ | h'
          · exact absurd h0 hk0
          · exact h'
        have hsort := sortHits wr g cap3 (spotsTo l sa fr k) (hitsOf l p) (by simp; omega) (by simp; omega) HP.out HSO.out (fun j x hx => by
          have hj : j < k * 2 := by have := (List.getElem?_eq_some_iff.1 hx).1; rwa [hitCells_length, spotsTo_length] at this
          rw [cell_heap hgb, ← Array.getElem?_toList, ← List.getElem?_take_of_lt hj, htake, hx]) (fun j => by simp [World.frozen?, hgb])
        rw [spotsTo_length] at hsort
        have HSRT := Lib.hid hsort
        clear hsort
        have hlH : (hitsOf l p).length = k := by have := HP.out.length_eq; rw [spotsTo_length] at this; exact this.symm
        have HLH := Lib.hid hlH
        clear hlH htake
        go_wp2_with (go_at_call 24; refine HSRT.out.mono ?_; rintro e w' ⟨rfl, hcells, hkeep⟩)
        go_ret
        refine ⟨_, rfl, ⟨some ⟨g, 0, none⟩, cap3, by rw [HLH.out]; rfl, by rw [HLH.out]; exact hnc, by unfold maxLen at hcm3; exact hcm3, fun _ => ⟨g, 0, rfl, hcells⟩⟩, hBr.trans (hkeep.below (fun i e => by omega) hBr.size)⟩

theorem sortNone (p : Option Addr) (cap : Nat) (w : World) :
    Calls Try.prog 24 #[.slice p 0 cap, .func (.func 25) #[] #[]] w fun e w' => e = .returned (.tuple #[]) ∧ w = w' :=
  Calls.mono (AnyF.slices_SortFunc_none Try.sortHit p cap (.func (.func 25) #[] #[]) w) fun e w' h => ⟨h.1, h.2.symm⟩
set_option maxRecDepth 100000 in
theorem idxLocateNil (w : World) (ao : Option Addr) (len cap : Nat) :
    Calls Try.prog 13 #[.pointer none, .slice ao len cap] w fun e w' => e = .returned (.slice none 0 0) ∧ Below w.heap.size w w' := by
  have HF := Lib.hid (fun W => idxFindNil W ao len cap)
  go_enter Try.func13, Try.ntmps13
  go_wp2_with (go_at_call 21; refine (HF.out _).mono ?_; rintro e w1 ⟨rfl, hB⟩)
  go_loop [5, 8] (fun ta ti => ta = .slice none 0 0 ∧ ti = .int .i64 0) (fun _ _ => 0)
  case atStart => exact ⟨rfl, rfl⟩
  case round =>
    obtain ⟨rfl, rfl⟩ := hrel
    go_wp2_with (go_at_call 24; refine (sortNone _ _ _).mono ?_; rintro e w' ⟨rfl, rfl⟩)
    go_ret
    exact ⟨rfl, hB⟩
end Go.Proofs.Ythgnapngjmgkcaa
