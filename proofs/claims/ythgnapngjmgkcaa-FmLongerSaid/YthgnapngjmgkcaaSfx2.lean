import Derived.Test.YthgnapngjmgkcaaIter
import Derived.Test.YthgnapngjmgkcaaSfxM
/- Package suffix: the symbols there are, in order: slices.Compact(slices.Sorted(slices.Values(s))). -/
namespace Go.Proofs.Ythgnapngjmgkcaa
open Go.RowKit

theorem slValues (a : Option Addr) (len cap : Nat) (w : World) : Calls Try.prog 52 #[.slice a len cap] w fun e w' => e = .returned (.func (.func 81) #[] #[.pointer (some ⟨w.heap.size, 0, none⟩)]) ∧ w' = w.alloc (.cells #[.slice a len cap] 43) := by
  go_enter Try.func52, Try.ntmps52
  go_wp2
  go_ret
  exact ⟨rfl, rfl⟩
/-- block b holds l from 0 on, and may be written -/
def RowAt (w : World) (b : Nat) (l : List Nat) : Prop := (∀ j x, l[j]? = some x → w.cell? ⟨b, j, none⟩ = some (.int .i64 (x : Nat))) ∧ ∀ j, w.frozen? ⟨b, j, none⟩ = false

def zsOf (l : List Nat) : List Int := l.map fun n : Nat => (n : Int)
@[simp] theorem zsOf_length (l : List Nat) : (zsOf l).length = l.length := by simp [zsOf]
theorem zsOf_get (l : List Nat) (j : Nat) (h : j < l.length) : (zsOf l)[j]?.getD 0 = (l[j] : Int) := by simp [zsOf, h]
theorem zsOf_toNat (l : List Nat) : (zsOf l).map Int.toNat = l := by
  simp only [zsOf, List.map_map]
  conv => rhs; rw [← List.map_id l]
  exact List.map_congr_left fun x _ => by simp
theorem enters80 : ∀ args w, (callFunc 80 args).run Try.prog w = .ok (.enter 80 args) w := enters_of Try.func80 (by kernel_rfl) rfl
theorem enters81 : ∀ args w, (callFunc 81 args).run Try.prog w = .ok (.enter 81 args) w := enters_of Try.func81 (by kernel_rfl) rfl
theorem sortsIn (m : Nat) : AnyZI.SortsIn Try.prog renZ Fence.wide m :=
  ⟨fun blk off cap ss W hH hblk hsz => callsIn_wide.2 (Try.slices_Sort_int blk off cap ss W hH hblk hsz), fun p cap W => callsIn_wide.2 (Try.slices_Sort_int_none p cap W)⟩
theorem perm_nat {a b : List Int} (h : a.Perm b) : (a.map Int.toNat).Perm (b.map Int.toNat) := h.map _
theorem slSorted (W : World) (b : Nat) (v : Value) (s : List Nat) (h0 : 0 < s.length) (hs : s.length ≤ 65536) (hb : W.cell? ⟨b, 0, none⟩ = some v) (hv : Sl W v (nats s)) :
    Calls Try.prog 51 #[.func (.func 81) #[] #[.pointer (some ⟨b, 0, none⟩)]] W fun e w' =>
      ∃ (b1 cap1 : Nat) (l : List Nat), e = .returned (.slice (some ⟨b1, 0, none⟩) l.length cap1) ∧ l.Perm s ∧ l.Pairwise (· ≤ ·) ∧ l.length ≤ cap1 ∧ W.heap.size ≤ b1 ∧ RowAt w' b1 l ∧ Below W.heap.size W w' := by
  obtain ⟨bb, off, cap, rfl, hlc, hcm, hc⟩ := hv.full (by simpa using h0)
  rw [nats_length] at hb hlc
  have hseq := values1B Fence.wide 3 trivial rfl (by decide) W b bb off s.length cap (zsOf s) (by simp) (by omega) hb (fun j hj => by rw [zsOf_get s j hj]; exact hc j _ (nats_get s j hj))
  have h := callsIn_wide.1 (sortedB laysZ Fence.wide 6 trivial trivial trivial trivial rfl (by decide) (sortsIn _) enters80 81 #[.pointer (some ⟨b, 0, none⟩)] trivial enters81 (fun xs => xs = zsOf s) s.length (by unfold maxLen; omega) (by omega) (fun ss e => by rw [e]; simp) W hseq)
  refine Calls.mono h ?_
  rintro e w' ⟨v1, ss, rfl, rfl, hrow, hnil, hB⟩
  have hp : ((zsOf s).mergeSort fun x y => decide (x ≤ y)).Perm (zsOf s) := List.mergeSort_perm _ _
  have hpw : ((zsOf s).mergeSort fun x y => decide (x ≤ y)).Pairwise (· ≤ ·) :=
    (List.pairwise_mergeSort (fun a b c h1 h2 => by simp at h1 h2 ⊢; omega) (fun a b => by simp; omega) (zsOf s)).imp (fun h => by simpa using h)
  have hpos : ∀ x ∈ (zsOf s).mergeSort fun x y => decide (x ≤ y), 0 ≤ x := fun x hx => by
    have := hp.mem_iff.1 hx
    simp only [zsOf, List.mem_map] at this
    obtain ⟨n, _, rfl⟩ := this
    omega
  generalize (zsOf s).mergeSort (fun x y => decide (x ≤ y)) = zs at hp hpw hpos hrow
  have hlen : zs.length = s.length := by simpa using hp.length_eq
  rcases hrow.2 with ⟨rfl, hz⟩ | ⟨gb, cap1, cur, rfl, hbase, hgb, r1, r2, r3, r4⟩
  · simp at hz; subst hz; simp at h0
  · simp only [zsOf_length] at r1 r2 r3 r4
    refine ⟨gb, cap1, zs.map Int.toNat, by simp [hlen], ?_, ?_, by simp; omega, hbase, ⟨?_, ?_⟩, hB⟩
    · have := hp.map Int.toNat
      rwa [zsOf_toNat] at this
    · rw [List.pairwise_map]
      exact hpw.imp fun h => by omega
    · intro j x hx
      have hj : j < zs.length := by have := (List.getElem?_eq_some_iff.1 hx).1; simpa using this
      have h1 : cur.toList[j]? = (zs.map encZ)[j]? := by rw [← r4, List.getElem?_take_of_lt (by omega)]
      rw [cell_heap hgb, ← Array.getElem?_toList, h1]
      rw [List.getElem?_map, List.getElem?_eq_getElem hj] at hx ⊢
      have hn := hpos zs[j] (List.getElem_mem hj)
      simp only [Option.map_some, Option.some.injEq] at hx ⊢
      subst hx
      show Value.int .i64 zs[j] = _
      rw [Int.toNat_of_nonneg hn]
    · intro j
      simp [World.frozen?, hgb]

/-- what Compact leaves of a sorted row -/
theorem compact_up (d : Array Int) (hd : ∀ i j, i ≤ j → j < d.size → d[i]! ≤ d[j]!) : ∀ m, m ≤ d.size → (Lib.compactUpTo d m).Pairwise (· < ·) ∧ ∀ x, x ∈ Lib.compactUpTo d m ↔ ∃ j, j < m ∧ d[j]! = x := by
  intro m
  induction m with
  | zero => intro _; exact ⟨by simp [Lib.compactUpTo], fun x => by simp [Lib.compactUpTo]⟩
  | succ m ih =>
    intro hm
    obtain ⟨h1, h2⟩ := ih (by omega)
    rw [Lib.compactUpTo_succ]
    by_cases hk : Lib.keeps d m = true
    · rw [if_pos hk]
      have hk' : m = 0 ∨ d[m]! ≠ d[m - 1]! := by simpa [Lib.keeps] using hk
      refine ⟨?_, fun x => ?_⟩
      · rw [List.pairwise_append]
        refine ⟨h1, by simp, fun a ha b hb => ?_⟩
        obtain ⟨j, hj, rfl⟩ := (h2 a).1 ha
        simp only [List.mem_singleton] at hb
        subst hb
        rcases hk' with e | e
        · omega
        · have a1 := hd j (m - 1) (by omega) (by omega)
          have a2 := hd (m - 1) m (by omega) (by omega)
          omega
      · rw [List.mem_append, h2]
        constructor
        · rintro (⟨j, hj, e⟩ | e)
          · exact ⟨j, by omega, e⟩
          · exact ⟨m, by omega, by simpa using Eq.symm (by simpa using e)⟩
        · rintro ⟨j, hj, e⟩
          rcases Nat.lt_succ_iff_lt_or_eq.1 hj with h | rfl
          · exact .inl ⟨j, h, e⟩
          · exact .inr (by simp [e])
    · rw [if_neg hk, List.append_nil]
      have hk' : m ≠ 0 ∧ d[m]! = d[m - 1]! := by
        have := hk
        simp only [Lib.keeps, decide_eq_true_eq, not_or, Decidable.not_not] at this
        exact this
      refine ⟨h1, fun x => ?_⟩
      rw [h2]
      constructor
      · rintro ⟨j, hj, e⟩; exact ⟨j, by omega, e⟩
      · rintro ⟨j, hj, e⟩
        rcases Nat.lt_succ_iff_lt_or_eq.1 hj with h | rfl
        · exact ⟨j, h, e⟩
        · exact ⟨j - 1, by omega, by rw [← hk'.2, e]⟩
theorem setCells_keeps (b : Nat) (vs : List Value) (o : Nat) (w : World) : Keeps (· = b) w (w.setCells b o vs) := by
  induction vs generalizing o w with
  | nil => exact Keeps.refl _ _
  | cons v vs ih => exact ((Keeps.refl (· = b) w).setCell (a := ⟨b, o, none⟩) (show b = b from rfl) v).trans (ih (o + 1) _)
theorem slCompact (W : World) (b cap : Nat) (l : List Nat) (h0 : 0 < l.length) (hs : l.length ≤ 65536) (hc : l.length ≤ cap) (hl : l.Pairwise (· ≤ ·)) (hr : RowAt W b l) :
    Calls Try.prog 50 #[.slice (some ⟨b, 0, none⟩) l.length cap] W fun e w' =>
      ∃ D : List Nat, e = .returned (.slice (some ⟨b, 0, none⟩) D.length cap) ∧ D.Pairwise (· < ·) ∧ (∀ x, x ∈ D ↔ x ∈ l) ∧ RowAt w' b D ∧ Keeps (· = b) W w' := by
  refine (Try.slices_Compact_int_cells b 0 l.length cap (zsOf l) W (by simp) (by omega) hc (fun j hj => ?_) (fun j hj => ?_)).mono ?_
  · have hj' : j < l.length := by simpa using hj
    rw [Nat.zero_add, hr.1 j _ (List.getElem?_eq_getElem hj'), List.getD_eq_getElem?_getD, zsOf_get l j hj']
  · exact hr.2 _
  · rintro e w' ⟨rfl, q, rfl⟩
    have e1 : (zsOf l).take l.length = zsOf l := List.take_of_length_le (by simp)
    rw [e1]
    have hle := Lib.compact_length_le (zsOf l)
    rw [zsOf_length] at hle
    have hd : ∀ i j, i ≤ j → j < (zsOf l).toArray.size → (zsOf l).toArray[i]! ≤ (zsOf l).toArray[j]! := by
      intro i j hij hj
      have hj' : j < l.length := by simpa using hj
      have hg : ∀ t, (h : t < l.length) → (zsOf l).toArray[t]! = (l[t] : Int) := fun t h => by
        rw [getElem!_pos _ t (by simpa using h)]; simp [zsOf]
      rw [hg i (by omega), hg j hj']
      rcases Nat.eq_or_lt_of_le hij with rfl | h
      · exact Int.le_refl _
      · have := List.pairwise_iff_getElem.1 hl i j (by omega) hj' h
        omega
    obtain ⟨c1, c2⟩ := compact_up (zsOf l).toArray hd l.length (by simp)
    have hcd : Lib.compact (zsOf l) = Lib.compactUpTo (zsOf l).toArray l.length := by rw [Lib.compact, zsOf_length]
    rw [← hcd] at c1 c2
    have hmem : ∀ x, x ∈ Lib.compact (zsOf l) ↔ x ∈ zsOf l := fun x => by
      rw [c2, List.mem_iff_getElem]
      constructor
      · rintro ⟨j, hj, e⟩
        have hj2 : j < (zsOf l).length := by simpa using hj
        exact ⟨j, hj2, by rw [← e, getElem!_pos _ j (by simpa using hj)]; simp⟩
      · rintro ⟨j, hj, e⟩
        exact ⟨j, by simpa using hj, by rw [← e, getElem!_pos _ j (by simpa using hj)]; simp⟩
    generalize Lib.compact (zsOf l) = C at *
    have hpos : ∀ x ∈ C, 0 ≤ x := fun x hx => by
      have := (hmem x).1 hx
      simp only [zsOf, List.mem_map] at this
      obtain ⟨n, _, rfl⟩ := this
      omega
    refine ⟨C.map Int.toNat, by simp, ?_, ?_, ⟨?_, ?_⟩, ?_⟩
    · rw [List.pairwise_map]
      refine (List.Pairwise.and_mem.1 c1).imp fun {a b} h => ?_
      have := hpos a h.1
      omega
    · intro x
      rw [List.mem_map]
      constructor
      · rintro ⟨z, hz, rfl⟩
        have := (hmem z).1 hz
        simp only [zsOf, List.mem_map] at this
        obtain ⟨n, hn, rfl⟩ := this
        simpa using hn
      · intro hx
        exact ⟨(x : Int), (hmem _).2 (by simp only [zsOf, List.mem_map]; exact ⟨x, hx, rfl⟩), by simp⟩
    · intro j x hx
      rw [List.getElem?_map] at hx
      have hj : j < C.length := by
        rcases Nat.lt_or_ge j C.length with h | h
        · exact h
        · rw [List.getElem?_eq_none h] at hx; cases hx
      rw [List.getElem?_eq_getElem hj, Option.map_some, Option.some.injEq] at hx
      have hlen : ((C ++ List.replicate (l.length - C.length) 0).map (Value.int .i64)).length = l.length := by simp; omega
      have := World.cell?_setCells_in b ((C ++ List.replicate (l.length - C.length) 0).map (Value.int .i64)) 0 (W.drewN q) (fun i hi => by
        rw [hlen] at hi
        show (W.cell? ⟨b, 0 + i, none⟩).isSome = true
        rw [Nat.zero_add, hr.1 i _ (List.getElem?_eq_getElem hi)]; rfl) j (by rw [hlen]; omega)
      rw [Nat.zero_add] at this
      rw [this, List.getElem_map, List.getElem_append_left hj, ← hx, Int.toNat_of_nonneg (hpos _ (List.getElem_mem hj))]
    · intro j
      rw [World.frozen?_setCells]
      exact hr.2 j
    · exact (Keeps.refl _ W).drewN q |>.trans (setCells_keeps b _ 0 _)
/-- where a symbol stands among those there are -/
theorem slPlace (W : World) (b cap : Nat) (D : List Nat) (x r : Nat) (hs : D.length ≤ 65536) (hD : D.Pairwise (· < ·)) (hx : D[r]? = some x) (hr : RowAt W b D) :
    Calls Try.prog 23 #[.slice (some ⟨b, 0, none⟩) D.length cap, .int .i64 x] W fun e w' =>
      e = .returned (.tuple #[.int .i64 r, .bool true]) ∧ ∃ q, w' = W.drewN q := by
  have hrl : r < D.length := (List.getElem?_eq_some_iff.1 hx).1
  have hxe : D[r] = x := (List.getElem?_eq_some_iff.1 hx).2
  have e1 : (zsOf D).take D.length = zsOf D := List.take_of_length_le (by simp)
  refine (Try.slices_BinarySearch_int b 0 D.length cap (zsOf D) x W (by simp) (by omega) (fun j hj => ?_) ?_).mono ?_
  · have hj' : j < D.length := by simpa using hj
    rw [Nat.zero_add, hr.1 j _ (List.getElem?_eq_getElem hj'), List.getD_eq_getElem?_getD, zsOf_get D j hj']
  · rw [e1, zsOf, List.pairwise_map]
    exact hD.imp fun h => by omega
  · rintro e w' ⟨rfl, q, rfl⟩
    refine ⟨?_, q, rfl⟩
    rw [e1]
    have h1 : (zsOf D).countP (fun z => decide (z < (x : Int))) = r := by
      rw [zsOf, List.countP_map]
      have : D = D.take r ++ D.drop r := (List.take_append_drop r D).symm
      rw [this, List.countP_append, List.countP_eq_length.2, List.countP_eq_zero.2, List.length_take]
      · omega
      · intro a ha
        obtain ⟨j, hj, rfl⟩ := List.getElem_of_mem ha
        rw [List.getElem_drop]
        have : x ≤ D[r + j]'(by simp at hj; omega) := by
          rcases Nat.eq_zero_or_pos j with rfl | hp
          · simp [hxe]
          · have := List.pairwise_iff_getElem.1 hD r (r + j) hrl (by simp at hj; omega) (by omega)
            omega
        simp; omega
      · intro a ha
        obtain ⟨j, hj, rfl⟩ := List.getElem_of_mem ha
        rw [List.getElem_take]
        have hj' : j < r := by simp at hj; omega
        have := List.pairwise_iff_getElem.1 hD j r (by omega) hrl hj'
        simp; omega
    have h2 : (zsOf D).contains (x : Int) = true := by
      rw [List.contains_iff_mem, zsOf, List.mem_map]
      exact ⟨x, List.mem_iff_getElem.2 ⟨r, hrl, hxe⟩, rfl⟩
    rw [h1, h2]
end Go.Proofs.Ythgnapngjmgkcaa
