import Derived.Test.YthgnapngjmgkcaaFm7
/- Package fm: Build: the Index of texts. -/
namespace Go.Proofs.Ythgnapngjmgkcaa
open Go.RowKit Go.Shelf

theorem startsTo_mem (s : List Nat) (k x : Nat) : x ∈ startsTo s k ↔ x = 0 ∨ ∃ i, i < k ∧ s.getD i 0 = 1 ∧ x = i + 1 := by
  induction k with
  | zero => simp [startsTo]
  | succ k ih =>
    unfold startsTo
    by_cases h : s.getD k 0 = 1
    · rw [if_pos h, List.mem_append, ih, List.mem_singleton]
      constructor
      · rintro ((e | ⟨i, h1, h2, h3⟩) | e)
        · exact .inl e
        · exact .inr ⟨i, by omega, h2, h3⟩
        · exact .inr ⟨k, by omega, h, e⟩
      · rintro (e | ⟨i, h1, h2, h3⟩)
        · exact .inl (.inl e)
        · rcases Nat.lt_succ_iff_lt_or_eq.1 h1 with q | rfl
          · exact .inl (.inr ⟨i, q, h2, h3⟩)
          · exact .inr h3
    · rw [if_neg h, ih]
      constructor
      · rintro (e | ⟨i, h1, h2, h3⟩)
        · exact .inl e
        · exact .inr ⟨i, by omega, h2, h3⟩
      · rintro (e | ⟨i, h1, h2, h3⟩)
        · exact .inl e
        · rcases Nat.lt_succ_iff_lt_or_eq.1 h1 with q | rfl
          · exact .inr ⟨i, q, h2, h3⟩
          · exact absurd h2 h
theorem startsTo_sorted (s : List Nat) (k : Nat) : (startsTo s k).Pairwise (· < ·) := by
  induction k with
  | zero => simp [startsTo]
  | succ k ih =>
    unfold startsTo
    split
    · rw [List.pairwise_append]
      refine ⟨ih, by simp, fun a ha b hb => ?_⟩
      rw [List.mem_singleton] at hb
      rcases (startsTo_mem s k a).1 ha with e | ⟨i, h1, _, h3⟩ <;> omega
    · exact ih
theorem startsTo_row (l : List (List UInt8)) : startsTo (rowOf l) (rowOf l).length = stL l := by
  have hs : (stL l).Pairwise (· < ·) := by
    rw [stL, List.pairwise_map]
    refine (List.Pairwise.and_mem.1 List.pairwise_lt_range).imp fun {a b} h => ?_
    have h1 := h.2.1
    rw [List.mem_range] at h1
    exact stOf_lt l h.2.2 (by omega)
  have hl := rowOf_length l
  refine List.Perm.eq_of_pairwise (le := (· < ·)) (fun a b _ _ h1 h2 => by omega) (startsTo_sorted _ _) hs ((List.perm_ext_iff_of_nodup ((startsTo_sorted _ _).imp fun h => by omega) (hs.imp fun h => by omega)).2 fun x => ?_)
  rw [startsTo_mem, stL, List.mem_map]
  constructor
  · rintro (rfl | ⟨i, h1, h2, rfl⟩)
    · exact ⟨0, by simp, by simp⟩
    · obtain ⟨d, hd, e⟩ := (rowOf_one l i).1 h2
      exact ⟨d + 1, by rw [List.mem_range]; omega, e.symm⟩
  · rintro ⟨d, hd, rfl⟩
    rw [List.mem_range] at hd
    cases d with
    | zero => exact .inl (by simp)
    | succ d =>
      have h1 := stOf_succ l d (by omega)
      have h2 := stOf_mono l (show d + 1 ≤ l.length by omega) (Nat.le_refl _)
      exact .inr ⟨stOf l (d + 1) - 1, by omega, (rowOf_one l _).2 ⟨d, by omega, by omega⟩, by omega⟩

/-- the row of the first texts, without its end -/
def rowTo (l : List (List UInt8)) (k : Nat) : List Nat := (l.take k).flatMap fun t => t.map sh ++ [1]
theorem rowOf_eq (l : List (List UInt8)) : rowOf l = rowTo l l.length ++ [0] := by
  rw [rowTo, List.take_length]
  induction l with
  | nil => rfl
  | cons t l ih => simp [rowOf, ih]
theorem rowTo_succ (l : List (List UInt8)) (k : Nat) (h : k < l.length) : rowTo l (k + 1) = rowTo l k ++ l[k].map sh ++ [1] := by
  rw [rowTo, List.take_succ_eq_append_getElem h, List.flatMap_append, ← rowTo]; simp
theorem rowTo_length (l : List (List UInt8)) (k : Nat) (h : k ≤ l.length) : (rowTo l k).length = stOf l k := by
  induction k with
  | zero => simp [rowTo]
  | succ k ih =>
    rw [rowTo_succ l k h, stOf_succ l k h, List.length_append, List.length_append, ih (by omega), List.length_map, List.getD_eq_getElem?_getD, List.getElem?_eq_getElem (show k < l.length by omega)]
    rfl
/-- the slice value v reads as texts -/
def Texts (w : World) (v : Value) (l : List (List UInt8)) : Prop := ∃ vs : List Value, Sl w v vs ∧ vs.length = l.length ∧ ∀ (i : Nat) (t : List UInt8) (x : Value), l[i]? = some t → vs[i]? = some x → Sl w x (bytes t)
theorem Texts.below {w w' : World} {v : Value} {l : List (List UInt8)} (h : Texts w v l) (hb : Below w.heap.size w w') : Texts w' v l := by
  obtain ⟨vs, h1, h2, h3⟩ := h
  exact ⟨vs, h1.below hb, h2, fun i t x a b => (h3 i t x a b).below hb⟩
def BuildOk (w : World) (l : List (List UInt8)) (e : Ending) (w' : World) : Prop :=
  if (rowOf l).length ≤ 65536 then ∃ b sa, e = .returned (.tuple #[.pointer (some ⟨b, 0, none⟩), .int .i64 0]) ∧ HeldIdx w.heap.size w' b (rowOf l) sa (stL l) ∧ Below w.heap.size w w'
  else e = .returned (.tuple #[.pointer none, .int .i64 5]) ∧ Below w.heap.size w w'

set_option maxRecDepth 100000 in
set_option maxHeartbeats 4000000 in
theorem fmBuild (w : World) (v : Value) (l : List (List UInt8)) (hl : l.length ≤ 1048576) (ht : ∀ t ∈ l, t.length ≤ 1048576) (hv : Texts w v l) :
    Calls Try.prog 10 #[v] w (BuildOk w l) := by
  obtain ⟨vs, hvs, hvl, hvt⟩ := hv
  obtain ⟨ao, cap, rfl, hlc, hcm⟩ := hvs.form
  obtain ⟨n, hn⟩ : ∃ n, l.length = n := ⟨_, rfl⟩
  rw [hvl, hn] at hlc hvs ⊢
  rw [hn] at hl
  obtain ⟨i0, hi0, hz0, hz1, hz2⟩ := info_parts Try.info_int
  have HVS := Lib.hid (fun i x (hx : vs[i]? = some x) => hvs.at_ i x hx)
  have HVT := Lib.hid hvt
  have HVL := Lib.hid hvl
  have HN := Lib.hid hn
  have HT := Lib.hid ht
  have ho0 : w.ownsRow w.heap.size 3 1 (.slice none 0 0) (stOf l 0) (nats (rowTo l 0)) := by rw [stOf_zero]; exact World.ownsRow_nil _ _ _ _
  have HO0 := Lib.hid ho0
  clear hvs hvt hvl hn ht ho0
  go_enter Try.func10, Try.ntmps10
  go_wp2
  go_loopw [4, 11] (fun ta tk wr => ∃ (k : Nat) (va : Value), k ≤ n ∧ tk = .int .i64 k ∧ va = ta ∧ stOf l k ≤ 65535 ∧ Hid (wr.ownsRow w.heap.size 3 1 va (stOf l k) (nats (rowTo l k))) ∧ Below w.heap.size w wr) (fun _ tk _ => n - (intOf tk).toNat)
  case atStart => exact ⟨0, _, Nat.zero_le _, rfl, rfl, by simp, HO0.out, Below.refl _ _⟩
  case round =>
    obtain ⟨k, va, hk, rfl, rfl, hst, ho, hBr⟩ := hrel
    by_cases hlt : k < n
    · have hkl : k < l.length := by rw [HN.out]; exact hlt
      have hkv : k < vs.length := by rw [HVL.out]; exact hkl
      obtain ⟨x, hx⟩ : ∃ x, vs[k]? = some x := ⟨_, List.getElem?_eq_getElem hkv⟩
      obtain ⟨b, off, rfl, cx⟩ := HVS.out k x hx
      have hsx := HVT.out k l[k] x (List.getElem?_eq_getElem hkl) hx
      have htl := HT.out l[k] (List.getElem_mem hkl)
      have hnx := rowTo_succ l k hkl
      have hsn := stOf_succ l k hkl
      rw [List.getD_eq_getElem?_getD, List.getElem?_eq_getElem hkl, Option.getD_some] at hsn
      have hrl := rowTo_length l k (by omega)
      generalize l[k] = t at hsx htl hnx hsn
      obtain ⟨ao2, cap2, rfl, hlc2, hcm2⟩ := hsx.form
      have HSX := Lib.hid (fun i x (hx : (bytes t)[i]? = some x) => hsx.at_ i x hx)
      rw [bytes_length] at cx hlc2
      have cx := cell_below hBr cx
      obtain ⟨tl, htl2⟩ : ∃ tl, t.length = tl := ⟨_, rfl⟩
      obtain ⟨sk, hsk⟩ : ∃ sk, stOf l k = sk := ⟨_, rfl⟩
      obtain ⟨R, hR⟩ : ∃ R, rowTo l k = R := ⟨_, rfl⟩
      rw [hR] at ho hnx hrl
      rw [hsk] at ho hst hsn hrl
      rw [htl2] at cx hlc2 htl hsn
      obtain ⟨ao3, cap3, hva, _⟩ := (own_sl ho.out).form
      rw [nats_length, hrl] at hva
      subst hva
      have HTL := Lib.hid htl2
      have HNX := Lib.hid hnx
      have HSN := Lib.hid hsn
      have HSK := Lib.hid hsk
      have HR := Lib.hid hR
      clear hnx hsn hsx hx htl2 hsk hR hrl
      by_cases hlong : 65536 < sk + tl + 2
      · have d1 : decide ((65536 : Int) < (sk : Int) + tl + 2) = true := decide_eq_true (by omega)
        go_wp2
        go_ret2
        have h1 := rowOf_length l
        have h2 := stOf_mono l (show k + 1 ≤ l.length by omega) (Nat.le_refl _)
        have h3 := HSN.out
        rw [BuildOk, if_neg (by omega)]
        exact ⟨rfl, hBr⟩
      · have d1 : decide ((65536 : Int) < (sk : Int) + tl + 2) = false := decide_eq_false (by omega)
        obtain ⟨wo, hwo⟩ : ∃ wo, wo = wr := ⟨_, rfl⟩
        subst hwo
        have hi0' : wo.ownsRow w.heap.size 3 1 (.slice ao3 sk cap3) (sk + 0) (nats (R ++ (t.take 0).map sh)) := by simpa using ho.out
        have HI0 := Lib.hid hi0'
        clear hi0' ho
        go_wp2
        go_loopw [4, 24] (fun ta tj wr => ∃ (j : Nat) (va : Value), j ≤ tl ∧ tj = .int .i64 j ∧ va = ta ∧ Hid (wr.ownsRow w.heap.size 3 1 va (sk + j) (nats (R ++ (t.take j).map sh))) ∧ Below w.heap.size w wr) (fun _ tj _ => tl - (intOf tj).toNat)
        case atStart => exact ⟨0, _, Nat.zero_le _, rfl, rfl, HI0.out, hBr⟩
        case round =>
          obtain ⟨j, va, hj, rfl, rfl, ho, hBr⟩ := hrel
          have hbs := hBr.size
          by_cases hjl : j < tl
          · have hjt : j < t.length := by rw [HTL.out]; exact hjl
            obtain ⟨b2, off2, rfl, cc⟩ := HSX.out j _ (bytes_get t j hjt)
            have cc := cell_below hBr cc
            have hsn : R ++ (t.take (j + 1)).map sh = (R ++ (t.take j).map sh) ++ [sh t[j]] := by rw [List.take_succ_eq_append_getElem hjt, List.map_append, ← List.append_assoc]; rfl
            generalize t[j] = c at cc hsn
            have hq : ((c.toNat : Nat) : Int) + 2 = ((sh c : Nat) : Int) := by unfold sh; omega
            have hcl := sh_lt c
            have hct := c.toNat_lt
            have HSN2 := Lib.hid hsn
            obtain ⟨y, hy⟩ : ∃ y, sh c = y := ⟨_, rfl⟩
            rw [hy] at hq hcl
            have HY := Lib.hid hy
            clear hsn hy
            go_wp2_with (at_builtin; refine wpList_append_lies _ rfl _ _ 43 rfl w.heap.size 3 i0 _ 1 8 Try.underlying43 hi0 hz0 hz1 hz2 rfl (by omega) va (sk + j) _ rfl (ho.out.alloc _) ⟨wr.heap.size, 0, none⟩ 1 1 [.int .i64 (y : Nat)] rfl rfl (World.news_of_block (cs := #[.int .i64 (y : Nat)]) (t := 3) (fr := (0, 0)) (heap_alloc_new wr _)) (by simp [Value.oneCell']) (by omega) (by unfold maxLen; omega) (by omega) (by simp; omega) (wr.heap.size + 1) (by simp) ?_; intro gg cap4 w4 hown1 hgrow hat hlt2)
            go_roundw
            case rel =>
              refine ⟨j + 1, _, by omega, by go_num, rfl, ?_, ?_⟩
              · rw [HSN2.out, nats_app, HY.out]; exact hown1
              · exact ((hBr.alloc hBr.size _).grown hgrow (by have := hBr.size; simp; omega) (fun i hi => (ho.out.lt i hi).1))
            case measure => simp [intOf]; omega
          · obtain rfl : j = tl := by omega
            go_wp2_with (at_builtin; refine wpList_append_lies _ rfl _ _ 43 rfl w.heap.size 3 i0 _ 1 8 Try.underlying43 hi0 hz0 hz1 hz2 rfl (by omega) va (sk + j) _ rfl (ho.out.alloc _) ⟨wr.heap.size, 0, none⟩ 1 1 [.int .i64 1] rfl rfl (World.news_of_block (cs := #[.int .i64 1]) (t := 3) (fr := (0, 0)) (heap_alloc_new wr _)) (by simp [Value.oneCell']) (by omega) (by unfold maxLen; omega) (by omega) (by simp; omega) (wr.heap.size + 1) (by simp) ?_; intro gg cap4 w4 hown1 hgrow hat hlt2)
            go_roundw
            case rel =>
              have h3 := HSN.out
              refine ⟨k + 1, _, by omega, by go_num, rfl, by omega, ?_, ?_⟩
              · rw [HNX.out, nats_app, h3]
                have h4 := HTL.out
                rw [List.take_of_length_le (by omega)] at hown1
                exact hown1
              · exact ((hBr.alloc hBr.size _).grown hgrow (by have := hBr.size; simp; omega) (fun i hi => (ho.out.lt i hi).1))
            case measure => simp [intOf]; omega
    · obtain rfl : k = n := by omega
      have hbs := hBr.size
      have hre : nats (rowTo l k) ++ [.int .i64 0] = nats (rowOf l) := by rw [rowOf_eq, HN.out, nats_app]; rfl
      have hrl : (rowOf l).length = stOf l k + 1 := by rw [rowOf_length, HN.out]
      have HRE := Lib.hid hre
      have HRL := Lib.hid hrl
      obtain ⟨sk, hsk⟩ : ∃ sk, stOf l k = sk := ⟨_, rfl⟩
      rw [hsk] at ho hst HRL
      clear hre hrl hsk
      go_wp2_with (first
        | (at_builtin; refine wpList_append_lies _ rfl _ _ 43 rfl w.heap.size 3 i0 _ 1 8 Try.underlying43 hi0 hz0 hz1 hz2 rfl (by omega) va sk _ rfl (ho.out.alloc _) ⟨wr.heap.size, 0, none⟩ 1 1 [.int .i64 0] rfl rfl (World.news_of_block (cs := #[.int .i64 0]) (t := 3) (fr := (0, 0)) (heap_alloc_new wr _)) (by simp [Value.oneCell']) (by omega) (by unfold maxLen; omega) (by omega) (by simp; omega) (wr.heap.size + 1) (by simp) ?_; intro gg cap4 w4 hown1 hgrow hat hlt2
           rw [HRE.out] at hown1
           have hB4 := ((hBr.alloc hBr.size (.cells #[.int .i64 0] 3)).grown hgrow (by have := hBr.size; simp; omega) (fun i hi => (ho.out.lt i hi).1))
           have HM := Lib.hid (fmMade w4 _ (rowOf l) (rowOf_Closed l) (by rw [HRL.out]; omega) (rowOf_lt l) (own_sl hown1)))
        | (go_at_call 20; refine HM.out.mono ?_; rintro e w5 ⟨bi, sa, rfl, hheld, hB5⟩))
      go_ret2
      rw [BuildOk, if_pos (by rw [HRL.out]; omega)]
      rw [startsTo_row] at hheld
      exact ⟨bi, sa, rfl, fun W q1 q2 => hheld W q1 (fun i h1 h2 => q2 i (by have := hB4.size; omega) h2), below_up hB4 hB5 hB4.size⟩
end Go.Proofs.Ythgnapngjmgkcaa
