import Derived.Test.YthgnapngjmgkcaaFm6
import Derived.Test.YthgnapngjmgkcaaWave3
import Derived.Test.YthgnapngjmgkcaaPack3
/- Package fm: made: the Index of a row. -/
namespace Go.Proofs.Ythgnapngjmgkcaa
open Go.RowKit Go.Shelf

/-- where texts begin, as made lays it -/
def startsTo (s : List Nat) : Nat → List Nat
  | 0 => [0]
  | k + 1 => if s.getD k 0 = 1 then startsTo s k ++ [k + 1] else startsTo s k
theorem startsTo_length (s : List Nat) (k : Nat) : (startsTo s k).length ≤ k + 1 := by
  induction k with
  | zero => simp [startsTo]
  | succ k ih =>
    unfold startsTo
    split
    · rw [List.length_append]; simp; omega
    · omega
theorem set_heap {W : World} {B i : Nat} {cs : Array Value} {u : Value} {t : TypeId} (h : W.heap[B]? = some (.cells cs t (0, 0))) : (W.setCell ⟨B, i, none⟩ u).heap[B]? = some (.cells (cs.setIfInBounds i u) t (0, 0)) := by
  obtain ⟨hlt, hk⟩ := Array.getElem?_eq_some_iff.1 h
  show (W.heap.modify B _)[B]? = _
  rw [Array.getElem?_eq_getElem (by rw [Array.size_modify]; exact hlt), Array.getElem_modify_self, hk]
  rfl
theorem u64s_app (A : List Nat) (b : Nat) : u64s (A ++ [b]) = u64s A ++ [.int .u64 b] := by simp [u64s]
theorem own_cell {w : World} {base n g cap : Nat} {e : TypeId} {xs : List Value} (h : w.ownsRow base e 1 (.slice (some ⟨g, 0, none⟩) n cap) n xs) (i : Nat) (x : Value) (hx : xs[i]? = some x) : w.cell? ⟨g, i, none⟩ = some x := by
  obtain ⟨b, off, e1, hc⟩ := (own_sl h).at_ i x hx
  injection e1 with e1
  injection e1 with e2 e3
  rw [← e2, ← e3, Nat.zero_add] at hc
  exact hc
/-- b is the Index of a row, and stays one while the blocks from lo on stay -/
def HeldIdx (lo : Nat) (w : World) (b : Nat) (s sa st : List Nat) : Prop := ∀ W, w.heap.size ≤ W.heap.size → Agree lo w.heap.size w W → IsIdx W b s sa st
def MadeOk (w : World) (s : List Nat) (e : Ending) (w' : World) : Prop :=
  ∃ b sa, e = .returned (.tuple #[.pointer (some ⟨b, 0, none⟩), .int .i64 0]) ∧ HeldIdx w.heap.size w' b s sa (startsTo s s.length) ∧ Below w.heap.size w w'

set_option maxRecDepth 100000 in
set_option maxHeartbeats 8000000 in
theorem fmMade (w : World) (v : Value) (s : List Nat) (hc : Closed s) (hs : s.length ≤ 65536) (hlt : ∀ x ∈ s, x < 258) (hv : Sl w v (nats s)) :
    Calls Try.prog 20 #[v] w (MadeOk w s) := by
  have K1 := Lib.hid (arrayOk w v s hc.1 hs hv)
  have K2 := Lib.hid (fun W (hb : Below w.heap.size w W) => bwtTurn W v s hc hs (hv.below hb))
  obtain ⟨n, hn⟩ : ∃ n, s.length = n := ⟨_, rfl⟩
  have h0 := hc.1
  obtain ⟨b, off, cap, rfl, hlc, hcm, hcl⟩ := hv.full (by simpa using h0)
  rw [nats_length] at hlc K1 K2 ⊢
  rw [hn] at h0 hlc hs K1 K2 ⊢
  have HN := Lib.hid hn
  have HCL := Lib.hid hcl
  have HC := Lib.hid hc
  have HLT := Lib.hid hlt
  obtain ⟨i0, hi0, hz0, hz1, hz2⟩ := info_parts Try.info_int
  clear hn hcl hc hv hlt
  go_enter Try.func20, Try.ntmps20
  go_wp2_with (first
    | (go_at_call 33; refine K1.out.mono ?_; rintro e w1 ⟨bs, sa, rfl, hb, hnum, hsa, hB1⟩
       rw [HN.out] at hnum ⊢
       have HSA := Lib.hid hsa
       have HNUM := Lib.hid hnum
       clear hsa hnum hb)
    | (go_at_call 34; refine (K2.out _ hB1).mono ?_; rintro e w2 ⟨vt, sa2, rfl, hsa2, hvt, hB2⟩
       obtain rfl := sa_unique HSA.out hsa2
       have hsvt := own_sl hvt
       have hB2' := below_up hB1 hB2 hB1.size
       have htl := turnedOf_length HSA.out
       have htm := fun x hx => HLT.out x (turnedOf_mem HSA.out HC.out.1 x hx)
       have HC3 := Lib.hid (bwtCounts w2 vt (turnedOf s sa) (by rw [htl]; exact HC.out.1) (by rw [htl, HN.out]; exact hs) (fun x hx => by have := htm x hx; omega) hsvt)
       have HVT := Lib.hid hvt
       have HTM := Lib.hid htm
       have HTL := Lib.hid htl
       clear hsa2 hvt hsvt htl htm)
    | (go_at_call 35; refine HC3.out.mono ?_; rintro e w3 ⟨rfl, hless, hB3⟩
       have hB3' := below_up hB2' hB3 hB2'.size
       have TB := two_blocks w3 (.cells #[.int .i64 0] 3) (.cells #[.pointer none, .slice (some ⟨w2.heap.size, 0, none⟩) 513 513, .slice (some ⟨w3.heap.size, 0, none⟩) 1 1, .pointer none, .pointer none, .slice none 0 0] 56)
       have BT := below_two w3 (.cells #[.int .i64 0] 3) (.cells #[.pointer none, .slice (some ⟨w2.heap.size, 0, none⟩) 513 513, .slice (some ⟨w3.heap.size, 0, none⟩) 1 1, .pointer none, .pointer none, .slice none 0 0] 56)
       have hvt4 := own_sl (own_row_below HVT.out (below_up hB3 BT hB3.size)))
    | (go_at_call 36; refine (treeBuild _ 9 vt (turnedOf s sa) (by omega) (by omega) hvt4 (by rw [HTL.out, HN.out]; omega) (fun x hx => by have := HTM.out x hx; omega)).mono ?_; rintro e w5 ⟨bt, rfl, hbt, htree, hB5⟩
       have hz5 := (hB5.block w3.heap.size (by simp; omega)).trans TB.1
       have hx5 := (hB5.block (w3.heap.size + 1) (by simp)).trans TB.2
       have cx5 := (cell_heap (o := 0) hx5).trans rfl
       have fx5 : w5.frozen? ⟨w3.heap.size + 1, 0, none⟩ = false := by simp [World.frozen?, hx5]
       have HTREE := Lib.hid htree
       have HLESS := Lib.hid hless
       clear hvt4 TB htree hless))
  have hBT := below_up hB3' (BT.trans (hB5.mono (by simp; omega))) hB3'.size
  have hs3 := hB3'.size
  have hs2 := hB2'.size
  have hs32 := hB3.size
  have hll := HLESS.out.lt
  have hnl := HNUM.out.lt
  have hs12 := hB2.size
  have hs53 : w3.heap.size + 2 ≤ w5.heap.size := by have := hB5.size; simp at this; omega
  obtain ⟨bz, hbz⟩ : ∃ bz, w3.heap.size = bz := ⟨_, rfl⟩
  obtain ⟨bl, hbl⟩ : ∃ bl, w2.heap.size = bl := ⟨_, rfl⟩
  have hbt2 : bz + 2 ≤ bt := by simp at hbt; omega
  have htree : HeldTree (bz + 2) w5 bt 9 (turnedOf s sa) := fun W q1 q2 => HTREE.out W q1 (fun k h1 h2 => q2 k (by simp at h1; omega) h2)
  have hless5 : Nums w5 bl 513 (lessN (turnedOf s sa)) := hbl ▸ HLESS.out.below (BT.trans (hB5.mono (by simp; omega)))
  have hnum5 : Nums w5 bs n (fun i => sa.getD i 0) := HNUM.out.below (below_up hB2 (below_up hB3 (BT.trans (hB5.mono (by simp; omega))) hB3.size) hB2.size)
  rw [hbz] at hz5 hx5 cx5 fx5 hs53 hs3 hs32 ⊢
  rw [hbl] at hx5 hs2 hll hs32 hs12 ⊢
  have e6 : (w5.setCell ⟨bz + 1, 0, none⟩ (.pointer (some ⟨bt, 0, none⟩))).heap[bz + 1]? = some (.cells #[.pointer (some ⟨bt, 0, none⟩), .slice (some ⟨bl, 0, none⟩) 513 513, .slice (some ⟨bz, 0, none⟩) 1 1, .pointer none, .pointer none, .slice none 0 0] 56 (0, 0)) := set_heap hx5
  obtain ⟨W6, hW6⟩ : ∃ W6, w5.setCell ⟨bz + 1, 0, none⟩ (.pointer (some ⟨bt, 0, none⟩)) = W6 := ⟨_, rfl⟩
  have k56 : Keeps (· = bz + 1) w5 W6 := by rw [← hW6]; exact (Keeps.refl (· = bz + 1) w5).setCell (a := ⟨bz + 1, 0, none⟩) rfl _
  have hs6 : W6.heap.size = w5.heap.size := by rw [← hW6]; simp
  rw [hW6] at e6 ⊢
  have z6 := k56.heap hz5 (by omega)
  have hB6 : Below w.heap.size w W6 := hBT.trans (k56.below (fun i e => by omega) hBT.size)
  have own6 : W6.ownsRow w.heap.size 3 1 (.slice (some ⟨bz, 0, none⟩) 1 1) 1 (nats (startsTo s 0)) := ⟨rfl, .inr ⟨bz, 1, _, rfl, hs3, z6, Nat.le_refl _, by unfold maxLen; omega, rfl, rfl⟩⟩
  have E6 := Lib.hid e6
  have O6 := Lib.hid own6
  have HL5 := Lib.hid hless5
  have HN5 := Lib.hid hnum5
  have HT5 := Lib.hid htree
  have K56 := Lib.hid k56
  have HB6 := Lib.hid hB6
  have hbw : b < w.heap.size := World.block_lt_of_cell? w _ (HCL.out 0 _ (nats_get s 0 (by rw [HN.out]; exact h0)))
  clear hbt hB5 hz5 hx5 cx5 fx5 HTREE HLESS hB3 hB3' hB2 hB2' hBT BT htree hless5 hnum5 k56 e6 own6 z6 hB6 hW6 K1 K2 HC3
  go_loopw [50] (fun tk wr => ∃ (k : Nat) (vs : Value), k ≤ n ∧ tk = .int .i64 k ∧ Hid (wr.heap[bz + 1]? = some (.cells #[.pointer (some ⟨bt, 0, none⟩), .slice (some ⟨bl, 0, none⟩) 513 513, vs, .pointer none, .pointer none, .slice none 0 0] 56 (0, 0))) ∧ Hid (wr.ownsRow w.heap.size 3 1 vs (startsTo s k).length (nats (startsTo s k))) ∧
      (∀ g, vs.ownBlock = some g → g = bz ∨ W6.heap.size ≤ g) ∧ Keeps (fun i => i = bz + 1 ∨ i = bz) W6 wr) (fun tk _ => n - (intOf tk).toNat)
  case atStart => exact ⟨0, _, Nat.zero_le _, rfl, E6.out, O6.out, fun g e => .inl (by simpa [Value.ownBlock] using e.symm), Keeps.refl _ _⟩
  case round =>
    obtain ⟨k, vs, hk, rfl, hx, ho, hsep, hK⟩ := hrel
    by_cases hlt : k < n
    · have hks : k < s.length := by rw [HN.out]; exact hlt
      have c := hK.cell (cell_below HB6.out (HCL.out k _ (nats_get s k hks))) (by show ¬ (b = bz + 1 ∨ b = bz); omega)
      have hst : startsTo s (k + 1) = if s.getD k 0 = 1 then startsTo s k ++ [k + 1] else startsTo s k := rfl
      rw [List.getD_eq_getElem?_getD, List.getElem?_eq_getElem hks, Option.getD_some] at hst
      generalize s[k] = x at c hst
      have hlen := startsTo_length s k
      have hKs := hK.size
      by_cases h1 : x = 1
      · subst h1
        rw [if_pos rfl] at hst
        have HST := Lib.hid hst
        have c2 := (cell_heap (o := 2) hx.out).trans rfl
        have hxlt := (Array.getElem?_eq_some_iff.1 hx.out).1
        obtain ⟨m, hm⟩ : ∃ m, (startsTo s k).length = m := ⟨_, rfl⟩
        rw [hm] at ho hlen
        have HM := Lib.hid hm
        have hvne : some (bz + 1) ≠ vs.ownBlock := fun e => by
          rcases hsep (bz + 1) e.symm with r | r <;> omega
        clear hst hm
        go_wp2_with ((at_builtin; refine wpList_append_lies _ rfl _ _ 43 rfl w.heap.size 3 i0 _ 1 8 Try.underlying43 hi0 hz0 hz1 hz2 rfl (by omega) vs m _ rfl (ho.out.alloc _) ⟨wr.heap.size, 0, none⟩ 1 1 [.int .i64 (k + 1 : Nat)] rfl rfl (World.news_of_block (cs := #[.int .i64 (k + 1 : Nat)]) (t := 3) (fr := (0, 0)) (heap_alloc_new wr _)) (by simp [Value.oneCell']) (by omega) (by unfold maxLen; omega) (by omega) (by have := HB6.out.size; simp; omega) (wr.heap.size + 1) (by simp) ?_; intro gg cap2 w9 hown1 hgrow hat hlt2
                      have hx9 := (hgrow.block (bz + 1) (by simp; omega) hvne).trans ((Below.heap_alloc wr _ _ hxlt).trans hx.out)
                      have c9 := (cell_heap (o := 2) hx9).trans rfl
                      have f9 : w9.frozen? ⟨bz + 1, 2, none⟩ = false := by simp [World.frozen?, hx9]))
        go_roundw
        case rel =>
          have hkk : Keeps (fun i => i = bz + 1) w9 (w9.setCell ⟨bz + 1, 2, none⟩ (.slice (some ⟨gg, 0, none⟩) (m + 1) cap2)) := (Keeps.refl (fun i => i = bz + 1) w9).setCell (a := ⟨bz + 1, 2, none⟩) rfl _
          have hgne : gg ≠ bz + 1 := fun e => by
            rcases hat with q | q
            · rcases hsep gg q with r | r <;> omega
            · omega
          have hgg : ∀ g, Value.ownBlock (.slice (some ⟨gg, 0, none⟩) (m + 1) cap2) = some g → g = gg := fun g e => by simpa [Value.ownBlock] using e.symm
          refine ⟨k + 1, _, by omega, by go_num, set_heap hx9, ?_, fun g e => ?_, ?_⟩
          · have := hkk.own hown1 (fun g e => by rw [hgg g e]; exact hgne)
            rw [HST.out, List.length_append, HM.out, nats_app]
            exact this
          · rw [hgg g e]
            rcases hat with q | q
            · exact hsep gg q
            · exact .inr (by omega)
          · refine ((hK.alloc _).trans' (S' := fun i => some i = vs.ownBlock) (Keeps.of_grownBy hgrow (fun i e => e.symm)) (fun i e => ?_)).trans' hkk (fun i e => .inr (.inl e))
            rcases hsep i e.symm with r | r
            · exact .inr (.inr r)
            · exact .inl r
        case measure => simp [intOf]; omega
      · rw [if_neg h1] at hst
        have t1 : ((x : Int) == 1) = false := by simp; omega
        have HST := Lib.hid hst
        clear hst
        go_wp2
        go_roundw
        case rel => exact ⟨k + 1, vs, by omega, by go_num, hx.out, by rw [HST.out]; exact ho.out, hsep, hK⟩
        case measure => simp [intOf]; omega
    · obtain rfl : k = n := by omega
      obtain ⟨n, hkn⟩ : ∃ n, n = k := ⟨_, rfl⟩
      subst hkn
      obtain ⟨wo, hwo⟩ : ∃ wo, wo = wr := ⟨_, rfl⟩
      subst hwo
      have hKs := hK.size
      have nl : Nums wo bl 513 (lessN (turnedOf s sa)) := (HL5.out.keeps K56.out (by show ¬ bl = bz + 1; omega)).keeps hK (by show ¬ (bl = bz + 1 ∨ bl = bz); omega)
      have ns : Nums wo bs n (fun i => sa.getD i 0) := (HN5.out.keeps K56.out (by show ¬ bs = bz + 1; omega)).keeps hK (by show ¬ (bs = bz + 1 ∨ bs = bz); omega)
      have NL := Lib.hid nl
      have NS := Lib.hid ns
      have hxlt := (Array.getElem?_eq_some_iff.1 hx.out).1
      have hsal := sa_len HSA.out
      rw [HN.out] at hsal
      have HSAL := Lib.hid hsal
      have oo0 : wo.ownsRow wo.heap.size 3 1 (.slice none 0 0) (onesTo sa 0).length (nats (onesTo sa 0)) := World.ownsRow_nil _ _ _ _
      have op0 : wo.ownsRow wo.heap.size 67 1 (.slice none 0 0) (samplesTo sa 0).length (u64s (samplesTo sa 0)) := World.ownsRow_nil _ _ _ _
      have OO0 := Lib.hid oo0
      have OP0 := Lib.hid op0
      obtain ⟨j0, hj0, hy0, hy1, hy2⟩ := info_parts Try.info_u64
      clear nl ns HL5 HN5 oo0 op0 hsal E6 O6
      go_wp2
      go_loopw [10, 11, 71] (fun to_ tp tk wr => ∃ (k : Nat) (vo vp : Value), k ≤ n ∧ tk = .int .i64 k ∧ vo = to_ ∧ vp = tp ∧ Hid (wr.ownsRow wo.heap.size 3 1 vo (onesTo sa k).length (nats (onesTo sa k))) ∧ Hid (wr.ownsRow wo.heap.size 67 1 vp (samplesTo sa k).length (u64s (samplesTo sa k))) ∧ Sep vo vp ∧ Below wo.heap.size wo wr)
        (fun _ _ tk _ => n - (intOf tk).toNat)
      case atStart => exact ⟨0, _, _, Nat.zero_le _, rfl, rfl, rfl, OO0.out, OP0.out, sep_nil _, Below.refl _ _⟩
      case round =>
        obtain ⟨k, vo, vp, hk, rfl, rfl, rfl, hvo, hvp, hsp, hBr⟩ := hrel
        have hqs := hBr.size
        by_cases hlt : k < n
        · have hks : k < s.length := by rw [HN.out]; exact hlt
          have hkl : k < sa.length := by rw [HSAL.out]; exact hlt
          have cp := (NS.out.below hBr).cell hlt
          have hp := sa_lt HSA.out hks
          rw [HN.out] at hp
          have ho1 := ones_step sa k
          have hs1 := samples_step sa k hkl
          have hol := onesTo_length sa k (by omega)
          have hol2 : (samplesTo sa k).length = (onesTo sa k).length := hol.symm
          have hle : (onesTo sa k).length ≤ k := by
            rw [onesTo]; have := List.length_filter_le (fun j => mark8 (sa.getD j 0)) (List.range k); simpa using this
          generalize sa.getD k 0 = p at cp hp ho1 hs1
          by_cases hm : mark8 p = true
          · rw [if_pos hm] at ho1 hs1
            have hp8 : p % 8 = 0 := by simpa [mark8] using hm
            have t0 : (p : Int) % 8 = 0 := by omega
            have uw : IntKind.u64.wrap (p : Int) = (p : Int) := wrap_small p (by omega)
            obtain ⟨m, hml⟩ : ∃ m, (onesTo sa k).length = m := ⟨_, rfl⟩
            rw [hol2] at hvp
            rw [hml] at hvo hvp hle
            have HO1 := Lib.hid ho1
            have HS1 := Lib.hid hs1
            have HML := Lib.hid hml
            have HM2 := Lib.hid hol2
            clear ho1 hs1 hml hol hol2 hm hp8
            go_wp2_with ((at_builtin; first
                          | (refine wpList_append_lies _ rfl _ _ 43 rfl wo.heap.size 3 i0 _ 1 8 Try.underlying43 hi0 hz0 hz1 hz2 rfl (by omega) vo m _ rfl (hvo.out.alloc _) ⟨wr.heap.size, 0, none⟩ 1 1 [.int .i64 (k : Nat)] rfl rfl (World.news_of_block (cs := #[.int .i64 (k : Nat)]) (t := 3) (fr := (0, 0)) (heap_alloc_new wr _)) (by simp [Value.oneCell']) (by omega) (by unfold maxLen; omega) (by omega) (by simp; omega) (wr.heap.size + 1) (by simp) ?_; intro g8 cap8 w8 hown8 hgrow8 hat8 hlt8
                             have hvp8 := own_row_grown (hvp.out.alloc (.cells #[.int .i64 (k : Nat)] 3)) hgrow8 hsp
                             have hs8 := hgrow8.size
                             simp only [World.size_alloc] at hs8)
                          | (refine wpList_append_lies _ rfl _ _ 66 rfl wo.heap.size 67 j0 _ 1 8 Try.underlying66 hj0 hy0 hy1 hy2 rfl (by omega) vp m _ rfl (hvp8.alloc _) ⟨w8.heap.size, 0, none⟩ 1 1 [.int .u64 (p : Nat)] rfl rfl (World.news_of_block (cs := #[.int .u64 (p : Nat)]) (t := 67) (fr := (0, 0)) (heap_alloc_new w8 _)) (by simp [Value.oneCell']) (by omega) (by unfold maxLen; omega) (by omega) (by simp; omega) (w8.heap.size + 1) (by simp) ?_; intro g9 cap9 w9 hown9 hgrow9 hat9 hlt9)))
            go_roundw
            case rel =>
              have s1 : Sep (.slice (some ⟨g8, 0, none⟩) (m + 1) cap8) vp := Sep.grown (W := wr.alloc (.cells #[.int .i64 (k : Nat)] 3)) hsp (by rw [World.size_alloc]; exact hat8) (own_lt (hvp.out.alloc _)) rfl
              have s2 : Sep (.slice (some ⟨g9, 0, none⟩) (m + 1) cap9) (.slice (some ⟨g8, 0, none⟩) (m + 1) cap8) := Sep.grown (W := w8.alloc (.cells #[.int .u64 (p : Nat)] 67)) s1.symm (by rw [World.size_alloc]; exact hat9) (own_lt (hown8.alloc _)) rfl
              have hown89 := own_row_grown (hown8.alloc (.cells #[.int .u64 (p : Nat)] 67)) hgrow9 s1.symm
              refine ⟨k + 1, _, _, by omega, by go_num, rfl, rfl, ?_, ?_, s2.symm, ?_⟩
              · rw [HO1.out, List.length_append, HML.out, nats_app]; exact hown89
              · rw [HS1.out, List.length_append, HM2.out, HML.out, u64s_app]; exact hown9
              · have hB8 := ((hBr.alloc hBr.size (.cells #[.int .i64 (k : Nat)] 3)).grown hgrow8 (by have := hBr.size; simp; omega) (fun j hj => (hvo.out.lt j hj).1))
                exact ((hB8.alloc hB8.size _).grown hgrow9 (by have := hB8.size; simp; omega) (fun j hj => (hvp.out.lt j hj).1))
            case measure => simp [intOf]; omega
          · rw [if_neg hm] at ho1 hs1
            have hp8 : ¬ p % 8 = 0 := by simpa [mark8] using hm
            have t0 : ((p : Int) % 8 == 0) = false := by simp; omega
            have HO1 := Lib.hid ho1
            have HS1 := Lib.hid hs1
            clear ho1 hs1 hol hol2 hm hp8
            go_wp2
            go_roundw
            case rel => exact ⟨k + 1, vo, vp, by omega, by go_num, rfl, rfl, by rw [HO1.out]; exact hvo.out, by rw [HS1.out]; exact hvp.out, hsp, hBr⟩
            case measure => simp [intOf]; omega
        · obtain rfl : k = n := by omega
          obtain ⟨n, hkn⟩ : ∃ n, n = k := ⟨_, rfl⟩
          subst hkn
          obtain ⟨wq, hwq⟩ : ∃ wq, wq = wr := ⟨_, rfl⟩
          subst hwq
          have hBq := hBr
          have hsm : samplesTo sa n = sampled sa := by rw [samplesTo, List.take_of_length_le (by rw [HSAL.out]; exact Nat.le_refl _)]; rfl
          obtain ⟨m, hml⟩ : ∃ m, (n + 7) / 8 = m := ⟨_, rfl⟩
          have hsl := sampled_length HSA.out
          rw [HN.out, hml] at hsl
          have hol := onesTo_length sa n (by rw [HSAL.out]; exact Nat.le_refl _)
          have hol2 : (onesTo sa n).length = m := by rw [hol]; show (samplesTo sa n).length = m; rw [hsm]; exact hsl
          rw [hsm, hsl] at hvp
          rw [hol2] at hvo
          have hm0 : 0 < m := by omega
          obtain ⟨go, co, rfl, hgo⟩ := hvo.out.form hm0
          obtain ⟨gp, cp, rfl, hgp⟩ := hvp.out.form hm0
          have hgo1 := (hvo.out.lt go rfl).1
          have hgp1 := (hvp.out.lt gp rfl).1
          have hgo2 := (hvo.out.lt go rfl).2
          have hgp2 := (hvp.out.lt gp rfl).2
          have COO := Lib.hid (fun i x hx => own_cell hvo.out i x hx)
          have CPP := Lib.hid (fun i x hx => own_cell hvp.out i x hx)
          have hq := hBq.size
          have hxq := (hBq.block _ hxlt).trans hx.out
          have hAq : Below wq.heap.size wq (wq.alloc (.cells (madeCells #[.int .i64 0] m) 3)) := (Below.refl _ _).alloc (Nat.le_refl _) _
          have hxa := (hAq.block _ (by omega)).trans hxq
          have ca := (cell_heap (o := 5) hxa).trans rfl
          have fa : (wq.alloc (.cells (madeCells #[.int .i64 0] m) 3)).frozen? ⟨bz + 1, 5, none⟩ = false := by simp [World.frozen?, hxa]
          have hrow := Nums.made wq m
          have hmk := make_int m (by omega)
          have hle : m ≤ n := by omega
          have HXA := Lib.hid hxa
          have HROW := Lib.hid hrow
          have HML := Lib.hid hml
          have HSL := Lib.hid hsl
          have HOL := Lib.hid hol2
          clear hxa hrow hml hsl hol hol2 hsm hgo hgp hx hxq
          go_wp2
          obtain ⟨br, hbr⟩ : ∃ br, wq.heap.size = br := ⟨_, rfl⟩
          have hx8 : ((wq.alloc (.cells (madeCells #[.int .i64 0] m) 3)).setCell ⟨bz + 1, 5, none⟩ (.slice (some ⟨br, 0, none⟩) m m)).heap[bz + 1]? = some (.cells #[.pointer (some ⟨bt, 0, none⟩), .slice (some ⟨bl, 0, none⟩) 513 513, vs, .pointer none, .pointer none, .slice (some ⟨br, 0, none⟩) m m] 56 (0, 0)) := set_heap HXA.out
          rw [hbr] at HROW hq hgo2 hgp2 hAq ⊢
          have k8 : Keeps (fun i => i = bz + 1) wq ((wq.alloc (.cells (madeCells #[.int .i64 0] m) 3)).setCell ⟨bz + 1, 5, none⟩ (.slice (some ⟨br, 0, none⟩) m m)) := ((Keeps.refl (fun i => i = bz + 1) wq).alloc _).setCell (a := ⟨bz + 1, 5, none⟩) rfl _
          have hrow8 : Nums ((wq.alloc (.cells (madeCells #[.int .i64 0] m) 3)).setCell ⟨bz + 1, 5, none⟩ (.slice (some ⟨br, 0, none⟩) m m)) br m (fun _ => 0) := HROW.out.setOther (a := ⟨bz + 1, 5, none⟩) (by show br ≠ bz + 1; omega) _
          have hz8 : ((wq.alloc (.cells (madeCells #[.int .i64 0] m) 3)).setCell ⟨bz + 1, 5, none⟩ (.slice (some ⟨br, 0, none⟩) m m)).heap.size = br + 1 := by simp [hbr]
          obtain ⟨W8, hW8⟩ : ∃ W8, (wq.alloc (.cells (madeCells #[.int .i64 0] m) 3)).setCell ⟨bz + 1, 5, none⟩ (.slice (some ⟨br, 0, none⟩) m m) = W8 := ⟨_, rfl⟩
          rw [hW8] at hx8 k8 hrow8 hz8 ⊢
          have HX8 := Lib.hid hx8
          have HR8 := Lib.hid hrow8
          have hgoz : ¬ go = bz + 1 := by omega
          have hgpz : ¬ gp = bz + 1 := by omega
          clear hW8 ca fa hAq hx8 hrow8 hmk
          go_loopw [97] (fun tk wr => ∃ (i : Nat) (g : Nat → Nat), i ≤ m ∧ tk = .int .i64 i ∧ Hid (Nums wr br m g) ∧ Hid (∀ j, j < i → g ((sampled sa).getD j 0 / 8) = (onesTo sa n).getD j 0) ∧ Keeps (fun i => i = br) W8 wr) (fun tk _ => m - (intOf tk).toNat)
          case atStart => exact ⟨0, _, Nat.zero_le _, rfl, HR8.out, fun j hj => by omega, Keeps.refl _ _⟩
          case round =>
            obtain ⟨i, g, hi, rfl, hg, hgv, hK8⟩ := hrel
            have hx9 := hK8.heap HX8.out (by show ¬ bz + 1 = br; omega)
            have hK8s := hK8.size
            by_cases hlt : i < m
            · have hil : i < (sampled sa).length := by rw [HSL.out]; exact hlt
              have hio : i < (onesTo sa n).length := by rw [HOL.out]; exact hlt
              obtain ⟨p, hp⟩ : ∃ p, (sampled sa).getD i 0 = p := ⟨_, rfl⟩
              obtain ⟨o, ho'⟩ : ∃ o, (onesTo sa n).getD i 0 = o := ⟨_, rfl⟩
              have hpm : p ∈ sampled sa := by rw [← hp, List.getD_eq_getElem?_getD, List.getElem?_eq_getElem hil]; exact List.getElem_mem hil
              obtain ⟨hp1, hp2⟩ := (sampled_mem HSA.out p).1 hpm
              rw [HN.out] at hp1
              have c1 := hK8.cell (k8.cell (CPP.out i (.int .u64 p) (by rw [u64s_get _ i hil, ← hp, List.getD_eq_getElem?_getD, List.getElem?_eq_getElem hil]; rfl)) hgpz) (by show ¬ gp = br; omega)
              have c2 := hK8.cell (k8.cell (COO.out i (.int .i64 o) (by rw [nats_get _ i hio, ← ho', List.getD_eq_getElem?_getD, List.getElem?_eq_getElem hio]; rfl)) hgoz) (by show ¬ go = br; omega)
              have c3 := (cell_heap (o := 5) hx9).trans rfl
              obtain ⟨q, hq8⟩ : ∃ q, p / 8 = q := ⟨_, rfl⟩
              have hqi : (p : Int) / 8 = (q : Int) := by omega
              have hqm : q < m := by have := HML.out; omega
              have c4 := hg.out.cell hqm
              have c5 := hg.out.frozen q
              have HP := Lib.hid hp
              have HO := Lib.hid ho'
              have HQ8 := Lib.hid hq8
              have HP2 := Lib.hid hp2
              clear hp ho' hq8 hpm hp2 hx9
              go_wp2
              go_region
              all_goals
                go_wp2
                go_roundw
                case rel =>
                  refine ⟨i + 1, fun t => if t = q then o else g t, by omega, by go_num, (hg.out.set q o).drewN 1, fun j hj => ?_, (hK8.setCell (a := ⟨br, q, none⟩) rfl _).drewN 1⟩
                  show (if (sampled sa).getD j 0 / 8 = q then o else g ((sampled sa).getD j 0 / 8)) = _
                  rcases Nat.lt_succ_iff_lt_or_eq.1 hj with h1 | rfl
                  · have hjl : j < (sampled sa).length := by rw [HSL.out]; omega
                    have hjm := (sampled_mem HSA.out ((sampled sa).getD j 0)).1 (by rw [List.getD_eq_getElem?_getD, List.getElem?_eq_getElem hjl]; exact List.getElem_mem hjl)
                    have hne := pairwise_getD (R := fun a b => a ≠ b) ((sa_nodup HSA.out).filter mark8) j i h1 (by show i < (sampled sa).length; rw [HSL.out]; exact hlt)
                    have e1 := HP.out
                    have e2 := HQ8.out
                    have e3 := HP2.out
                    have hne : (sampled sa).getD j 0 ≠ (sampled sa).getD i 0 := hne
                    rw [if_neg (by omega)]
                    exact hgv.out j h1
                  · rw [HP.out, HQ8.out, if_pos rfl, HO.out]
                case measure => simp [intOf]; omega
            · obtain rfl : i = m := by omega
              have hrows : ∀ kk, kk < i → g kk = rk sa (8 * kk) := fun kk hkk => by
                have hmem : 8 * kk ∈ sampled sa := (sampled_mem HSA.out _).2 ⟨by rw [HN.out]; have := HML.out; omega, by omega⟩
                obtain ⟨j, hj, e⟩ := List.getElem_of_mem hmem
                have e2 : (sampled sa).getD j 0 = 8 * kk := by rw [List.getD_eq_getElem?_getD, List.getElem?_eq_getElem hj]; exact e
                have h1 := hgv.out j (by rw [← HSL.out]; exact hj)
                have h2 := ones_rk HSA.out j hj
                rw [HN.out] at h2
                rw [e2, show 8 * kk / 8 = kk by omega, h2, e2] at h1
                exact h1
              have hrn := hg.out.congr hrows
              have HRN := Lib.hid hrn
              have ho8 := hK8.own (k8.own hvo.out (fun b hb => by rw [show b = go by simpa [Value.ownBlock] using hb.symm]; exact hgoz)) (fun b hb => by rw [show b = go by simpa [Value.ownBlock] using hb.symm]; omega)
              have hp8 := hK8.own (k8.own hvp.out (fun b hb => by rw [show b = gp by simpa [Value.ownBlock] using hb.symm]; exact hgpz)) (fun b hb => by rw [show b = gp by simpa [Value.ownBlock] using hb.symm]; omega)
              have HO8 := Lib.hid ho8
              have HP8 := Lib.hid hp8
              have HV := Lib.hid (vecNew wr n (.slice (some ⟨go, 0, none⟩) i co) (onesTo sa n) (by omega) (own_sl ho8) (fun x hx => onesTo_lt sa n x hx))
              clear hrn ho8 hp8 hrows
              go_wp2_with (first
                | (go_at_call 37; refine HV.out.mono ?_; rintro e w10 ⟨bm, rfl, hbm, hvec, hB10, hheld⟩
                   have HP10 := Lib.hid (packPack w10 (.slice (some ⟨gp, 0, none⟩) i cp) (sampled sa) (own_sl (own_row_below HP8.out hB10)) (by rw [HSL.out]; exact hm0) (by rw [HSL.out]; omega) (fun x hx => by have := ((sampled_mem HSA.out x).1 hx).1; rw [HN.out] at this; omega)))
                | (go_at_call 38; refine HP10.out.mono ?_; rintro e w11 ⟨bp, bw, wd, f, rfl, hbp, hbw2, hpk, hpn, hB11⟩
                   have hx11 := (hB11.block (bz + 1) (by have := hB10.size; omega)).trans ((hB10.block (bz + 1) (by omega)).trans hx9)
                   have c13 := (cell_heap (o := 3) hx11).trans rfl
                   have c14 := (cell_heap (o := 4) hx11).trans rfl
                   have f13 : w11.frozen? ⟨bz + 1, 3, none⟩ = false := by simp [World.frozen?, hx11]
                   have f14 : w11.frozen? ⟨bz + 1, 4, none⟩ = false := by simp [World.frozen?, hx11]))
              go_ret2
              have hx12 := set_heap (i := 4) (u := .pointer (some ⟨bp, 0, none⟩)) (set_heap (i := 3) (u := .pointer (some ⟨bm, 0, none⟩)) hx11)
              have k12 : Keeps (fun i => i = bz + 1) w11 ((w11.setCell ⟨bz + 1, 3, none⟩ (.pointer (some ⟨bm, 0, none⟩))).setCell ⟨bz + 1, 4, none⟩ (.pointer (some ⟨bp, 0, none⟩))) := ((Keeps.refl (fun i => i = bz + 1) w11).setCell (a := ⟨bz + 1, 3, none⟩) rfl _).setCell (a := ⟨bz + 1, 4, none⟩) rfl _
              have hz12 : ((w11.setCell ⟨bz + 1, 3, none⟩ (.pointer (some ⟨bm, 0, none⟩))).setCell ⟨bz + 1, 4, none⟩ (.pointer (some ⟨bp, 0, none⟩))).heap.size = w11.heap.size := by simp
              obtain ⟨W12, hW12⟩ : ∃ W12, (w11.setCell ⟨bz + 1, 3, none⟩ (.pointer (some ⟨bm, 0, none⟩))).setCell ⟨bz + 1, 4, none⟩ (.pointer (some ⟨bp, 0, none⟩)) = W12 := ⟨_, rfl⟩
              rw [hW12] at hx12 k12 hz12 ⊢
              have hs10 := hB10.size
              have hs11 := hB11.size
              have hwd := HB6.out.size
              have K10 : Keeps (fun i => i = bz + 1) w10 W12 := (Keeps.of_below hB11 _).trans k12
              have KR : Keeps (fun i => i = bz + 1) wr W12 := (Keeps.of_below hB10 _).trans K10
              have KO : Keeps (fun i => i = bz + 1) wo W12 := (((Keeps.of_below hBq (fun i => i = bz + 1)).trans k8).trans' hK8 (fun j e => .inl (by omega))).trans KR
              have KT : Keeps (fun i => i = bz + 1 ∨ i = bz) w5 W12 := ((K56.out.mono fun j e => .inl e).trans hK).trans (KO.mono fun j e => .inl e)
              have hB12 : Below w.heap.size w W12 := HB6.out.trans ((hK.trans (KO.mono fun j e => .inl e)).below (fun j e => by omega) HB6.out.size)
              refine ⟨bz + 1, sa, rfl, fun W q1 q2 => ?_, hB12⟩
              have hxW := q2.heap hx12 (by omega) (by omega)
              have hvs := own_sl (q2.own (KO.own ho.out (fun b hb => by
                rintro rfl
                rcases hsep _ hb with r | r <;> omega)) (Nat.le_refl _) (Nat.le_refl _))
              refine ⟨HSA.out, HC.out, by rw [HN.out]; exact hs, HLT.out, bt, bl, bm, bp, br, wd, i, vs, f, by rw [HN.out]; exact HML.out, (cell_heap hxW).trans rfl, (cell_heap hxW).trans rfl, (cell_heap hxW).trans rfl, (cell_heap hxW).trans rfl, (cell_heap hxW).trans rfl, (cell_heap hxW).trans rfl, ?_, ?_, ?_, ?_, ?_, ?_, ?_⟩
              · exact HT5.out W (by omega) (fun k h1 h2 => (q2 k (by omega) (by omega)).trans (KT.block k h2 (by omega)))
              · exact World.rowIs.of_block (NL.out.keeps KO (by omega)) (q2 bl (by omega) (by have := NL.out.lt; omega))
              · rw [HN.out]; exact hvs
              · have hv := hheld W (by omega) (fun k h1 h2 => (q2 k (by omega) (by omega)).trans (K10.block k h2 (by omega)))
                have hmo := marks_ones HSA.out
                rw [HN.out] at hmo
                rw [hmo] at hv
                rw [HN.out]
                exact hv
              · obtain ⟨p1, p2, p3⟩ := hpk
                rw [HSL.out] at p1 p2 p3
                have l1 := (Array.getElem?_eq_some_iff.1 p1).1
                have l2 := (Array.getElem?_eq_some_iff.1 p2).1
                exact ⟨bw, (q2 bp (by omega) (by omega)).trans (k12.heap p1 (by omega)), (q2 bw (by omega) (by omega)).trans (k12.heap p2 (by omega)), p3⟩
              · intro j hj
                exact hpn j (by rw [HSL.out]; exact hj)
              · exact World.rowIs.of_block (HRN.out.keeps KR (by omega)) (q2 br (by omega) (by omega))
end Go.Proofs.Ythgnapngjmgkcaa
