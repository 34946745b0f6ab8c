import Derived.Test.YthgnapngjmgkcaaLaw4
import Derived.DataShut
/- Package haystacklaw7: FmBytes returns true. -/
namespace Go.Proofs.Ythgnapngjmgkcaa
open Go.RowKit Go.Shelf

/-- how often a byte stands in the first texts -/
def cTo (l : List (List UInt8)) (b : UInt8) : Nat → Nat
  | 0 => 0
  | k + 1 => cTo l b k + (l.getD k []).count b
theorem fits_one (t : List UInt8) (b : UInt8) (j : Nat) (h : j < t.length) : fits [b] t j = (t[j] == b) := by
  rw [fits, List.drop_eq_getElem_cons h]
  simp only [List.isPrefixOf, Bool.and_true]
  rw [Bool.eq_iff_iff]
  simp
  exact eq_comm
theorem atsOf_one (t : List UInt8) (b : UInt8) : ∀ j, j ≤ t.length → ((List.range j).filter fun o => fits [b] t o).length = (t.take j).count b
  | 0, _ => rfl
  | j + 1, h => by
    rw [List.range_succ, List.filter_append, List.length_append, atsOf_one t b j (by omega), List.take_succ_eq_append_getElem (by omega), List.count_append]
    congr 1
    simp only [List.filter_cons, List.filter_nil, fits_one t b j (by omega)]
    rw [List.count_singleton]
    by_cases e : t[j] == b <;> simp [e]
theorem hits_count (l : List (List UInt8)) (b : UInt8) : (hitsOf l [b]).length = cTo l b l.length := by
  rw [hitsOf]
  generalize l.length = k
  induction k with
  | zero => rfl
  | succ k ih =>
    rw [List.range_succ, List.flatMap_append, List.length_append, ih, cTo]
    congr 1
    simp only [List.flatMap_cons, List.flatMap_nil, List.append_nil, List.length_map, atsOf]
    rw [atsOf_one _ _ _ (Nat.le_refl _), List.take_length]
theorem cTo_le (l : List (List UInt8)) (b : UInt8) (h : ∀ t ∈ l, t.length ≤ 800) : ∀ k, cTo l b k ≤ 800 * k
  | 0 => Nat.le_refl _
  | k + 1 => by
    have h1 := cTo_le l b h k
    have h2 : (l.getD k []).count b ≤ 800 := by
      refine Nat.le_trans List.count_le_length ?_
      rw [List.getD_eq_getElem?_getD]
      cases e : l[k]? with
      | none => simp
      | some t => exact h t (List.mem_of_getElem? e)
    rw [cTo]; omega
theorem row_fits (l : List (List UInt8)) (hle : ∀ t ∈ l, t.length ≤ 800) (h60 : l.length ≤ 60) : (rowOf l).length ≤ 65536 := by
  rw [rowOf_length]
  have : ∀ k, k ≤ l.length → stOf l k ≤ k * 801 := by
    intro k
    induction k with
    | zero => simp
    | succ k ih =>
      intro h
      have h1 := ih (by omega)
      rw [stOf_succ _ _ (by omega), List.getD_eq_getElem?_getD, List.getElem?_eq_getElem (by omega)]
      have h2 := hle _ (List.getElem_mem (show k < l.length by omega))
      simp only [Option.getD_some]
      omega
  have h2 := this l.length (Nat.le_refl _)
  omega

set_option maxRecDepth 100000 in
set_option maxHeartbeats 4000000 in
theorem walkBytes (w : World) (v : Value) (l : List (List UInt8)) (a : Int) (hv : Texts w v l) (ha : (Lit.int .u8 a).wf = true) :
    Calls Try.prog 4 #[v, .int .u8 a] w fun e w' => e = .returned (.bool true) ∧ Below w.heap.size w w' := by
  obtain ⟨b, rfl⟩ : ∃ b : UInt8, a = (b.toNat : Int) := by
    have h1 : 0 ≤ a ∧ a ≤ 255 := (Lit.wf_int_iff .u8 a).1 ha
    refine ⟨UInt8.ofNat a.toNat, ?_⟩
    have h2 : a.toNat % 256 = a.toNat := Nat.mod_eq_of_lt (by omega)
    rw [UInt8.toNat_ofNat', h2]
    omega
  have HH := Lib.hid (lawHeavyB w v l hv)
  have HV := Lib.hid hv
  have H7 := Lib.hid (fun W => lawKnown W)
  obtain ⟨vs, hvs, hvl, hvt⟩ := hv
  obtain ⟨ao, cap, rfl, hlc, hcm⟩ := hvs.form
  obtain ⟨n, hn⟩ : ∃ n, l.length = n := ⟨_, rfl⟩
  rw [hvl, hn] at hlc hvs HH HV ⊢
  have HVS := Lib.hid (fun i x (hx : vs[i]? = some x) => hvs.at_ i x hx)
  have HVT := Lib.hid hvt
  have HVL := Lib.hid hvl
  have HN := Lib.hid hn
  obtain ⟨hb, hhb⟩ : ∃ hb, heavyGo l 0 = hb := ⟨_, rfl⟩
  have hle := heavyGo_le l 0
  rw [hhb] at HH hle
  clear hvs hvt hvl hn hhb ha
  cases hb with
  | true =>
    clear hle
    go_enter Try.func4, Try.ntmps4
    go_wp2_with (go_at_call 11; refine HH.out.mono ?_; rintro e w1 ⟨rfl, m1, rfl⟩)
    go_ret
    exact ⟨rfl, below_drewN (Below.refl _ _) _⟩
  | false =>
    by_cases h60 : 60 < n
    · have d1 : decide ((60 : Int) < (n : Int)) = true := decide_eq_true (by omega)
      clear hle
      go_enter Try.func4, Try.ntmps4
      go_wp2_with (go_at_call 11; refine HH.out.mono ?_; rintro e w1 ⟨rfl, m1, rfl⟩)
      go_ret
      exact ⟨rfl, below_drewN (Below.refl _ _) _⟩
    · have d1 : decide ((60 : Int) < (n : Int)) = false := decide_eq_false (by omega)
      have hle := hle rfl
      have HLE := Lib.hid hle
      have HROW := Lib.hid (row_fits l hle (by have := HN.out; omega))
      have hcl := cTo_le l b hle
      have HCL := Lib.hid hcl
      clear hle hcl
      go_enter Try.func4, Try.ntmps4
      go_wp2_with (go_at_call 11; refine HH.out.mono ?_; rintro e w1 ⟨rfl, m1, hw1⟩; have hB1 : Below w.heap.size w w1 := (by rw [hw1]; exact below_drewN (Below.refl _ _) m1); clear hw1)
      go_loopw [5, 6] (fun tn tk wr => ∃ k s : Nat, k ≤ n ∧ tk = .int .i64 k ∧ tn = .int .i64 s ∧ Hid (cTo l b k = s) ∧ Below w.heap.size w wr) (fun _ tk _ => n - (intOf tk).toNat)
      case atStart => exact ⟨0, 0, Nat.zero_le _, rfl, rfl, Lib.hid rfl, hB1⟩
      case round =>
        obtain ⟨k, s, hk, rfl, rfl, hs, hBr⟩ := hrel
        have hsl := HCL.out k
        rw [hs.out] at hsl
        by_cases hlt : k < n
        · have hkl : k < l.length := by rw [HN.out]; exact hlt
          have hkv : k < vs.length := by rw [HVL.out]; exact hkl
          obtain ⟨x, hx⟩ : ∃ x, vs[k]? = some x := ⟨_, List.getElem?_eq_getElem hkv⟩
          obtain ⟨bo, off, rfl, cx⟩ := HVS.out k x hx
          have hsx := HVT.out k l[k] x (List.getElem?_eq_getElem hkl) hx
          have htl := HLE.out _ (List.getElem_mem hkl)
          have hnx : cTo l b (k + 1) = s + l[k].count b := by rw [cTo, hs.out, List.getD_eq_getElem?_getD, List.getElem?_eq_getElem hkl]; rfl
          generalize l[k] = t at hsx htl hnx
          obtain ⟨ao2, cap2, rfl, hlc2, hcm2⟩ := hsx.form
          have HSX := Lib.hid (fun i x (hx : (bytes t)[i]? = some x) => hsx.at_ i x hx)
          rw [bytes_length] at cx hlc2
          obtain ⟨tl, htl2⟩ : ∃ tl, t.length = tl := ⟨_, rfl⟩
          rw [htl2] at cx hlc2 htl
          have HTL := Lib.hid htl2
          have HNX := Lib.hid hnx
          clear hnx hsx hx htl2 hs
          obtain ⟨wo, hwo⟩ : ∃ wo, wo = wr := ⟨_, rfl⟩
          subst hwo
          go_wp2
          go_loopw [5, 7] (fun tn tj wr => ∃ j s2 : Nat, j ≤ tl ∧ tj = .int .i64 j ∧ tn = .int .i64 s2 ∧ s2 ≤ s + j ∧ Hid (s + (t.take j).count b = s2) ∧ Below w.heap.size w wr) (fun _ tj _ => tl - (intOf tj).toNat)
          case atStart => exact ⟨0, s, Nat.zero_le _, rfl, rfl, Nat.le_refl _, Lib.hid (by simp), hBr⟩
          case round =>
            obtain ⟨j, s2, hj, rfl, rfl, hs2, hc2, hBr⟩ := hrel
            have cx := cell_below hBr cx
            by_cases hjl : j < tl
            · have hjt : j < t.length := by rw [HTL.out]; exact hjl
              obtain ⟨b2, off2, rfl, cc⟩ := HSX.out j _ (bytes_get t j hjt)
              have cc := cell_below hBr cc
              have hsn : s + (t.take (j + 1)).count b = s2 + (if t[j] == b then 1 else 0) := by
                rw [List.take_succ_eq_append_getElem hjt, List.count_append, List.count_singleton, ← Nat.add_assoc, hc2.out]
              generalize t[j] = c at cc hsn
              by_cases hcb : c = b
              · subst hcb
                simp only [beq_self_eq_true, if_true] at hsn
                have HSN := Lib.hid hsn
                clear hsn hc2
                go_wp2
                go_roundw
                case rel => exact ⟨j + 1, s2 + 1, by omega, by go_num, by go_num, by omega, HSN, hBr⟩
                case measure => simp [intOf]; omega
              · have hne0 : ¬ c.toNat = b.toNat := fun e => hcb (UInt8.toNat_inj.1 e)
                have hne : ((c.toNat : Int) == (b.toNat : Int)) = false := beq_eq_false_iff_ne.2 (fun e => hne0 (by omega))
                clear hne0
                have hbq : (c == b) = false := by simpa using hcb
                rw [hbq] at hsn
                simp only [Bool.false_eq_true, if_false, Nat.add_zero] at hsn
                have HSN := Lib.hid hsn
                clear hsn hc2 hcb hbq
                go_wp2
                go_roundw
                case rel => exact ⟨j + 1, s2, by omega, by go_num, rfl, by omega, HSN, hBr⟩
                case measure => simp [intOf]; omega
            · obtain rfl : j = tl := by omega
              go_wp2
              go_roundw
              case rel =>
                refine ⟨k + 1, s2, by omega, by go_num, rfl, Lib.hid ?_, hBr⟩
                have h1 := hc2.out
                rw [List.take_of_length_le (by have := HTL.out; omega)] at h1
                rw [HNX.out]; exact h1
              case measure => simp [intOf]; omega
        · obtain rfl : k = n := by omega
          have hct := hits_count l b
          rw [HN.out, hs.out] at hct
          have HCT := Lib.hid hct
          clear hct hs
          go_wp2_with (first
            | (go_at_call 10
               refine (fmBuild _ _ l (by have := HN.out; omega) (fun t ht => by have := HLE.out t ht; omega) (HV.out.below hBr)).mono ?_
               rintro e w2 hb
               rw [BuildOk, if_pos HROW.out] at hb
               obtain ⟨b0, sa, rfl, hh, hB2⟩ := hb
               have hB2 := below_up hBr hB2 hBr.size
               have HI := Lib.hid hh
               clear hh)
            | (go_at_call 12
               have hb4 := below_alloc w2 (.cells #[.int .u8 (b.toNat : Nat)] 5)
               refine (idxCountOf _ l _ _ _ [b] (HI.out.at_ hb4) (by simp) (by simp) (alloc_sl _ _ _ _ (bytes [b]) _ _ rfl rfl rfl (by simp))).mono ?_
               rintro e w4 ⟨rfl, hB4⟩
               rw [HCT.out]
               have hb4 := below_up hb4 hB4 hb4.size)
            | (go_at_call 13
               have hb5 := hb4.alloc hb4.size (.cells #[.int .u8 (b.toNat : Nat)] 5)
               refine (idxLocate _ l _ _ _ [b] (HI.out.at_ hb5) (by simp) (by simp) (alloc_sl _ _ _ _ (bytes [b]) _ _ rfl rfl rfl (by simp))).mono ?_
               rintro e w5 ⟨v5, rfl, hs5, hB5⟩
               obtain ⟨ao5, cap5, rfl, hl5, hm5, _⟩ := hs5
               rw [HCT.out] at hl5 ⊢
               have hb5 := below_up hb5 hB5 hb5.size)
            | (go_at_call 9; refine (H7.out _).mono ?_; rintro e w7 ⟨rfl, hb7⟩; have hb7 := below_up (below_up hB2 hb5 hB2.size) hb7 (Nat.le_trans hB2.size hb5.size)))
          go_ret
          exact ⟨rfl, hb7⟩
end Go.Proofs.Ythgnapngjmgkcaa
