import Derived.Test.YthgnapngjmgkcaaLaw4
import Derived.Test.YthgnapngjmgkcaaChain
/- Package haystacklaw7: FmTexts returns true. -/
namespace Go.Proofs.Ythgnapngjmgkcaa
open Go.RowKit Go.Shelf

theorem stL_len (l : List (List UInt8)) : (stL l).length = l.length + 1 := by simp [stL]

set_option maxRecDepth 100000 in
set_option maxHeartbeats 4000000 in
theorem walkTexts (w : World) (v : Value) (l : List (List UInt8)) (hv : Texts w v l) :
    Calls Try.prog 7 #[v] w fun e w' => e = .returned (.bool true) ∧ Below w.heap.size w w' := by
  have HH := Lib.hid (lawHeavyB w v l hv)
  have HV := Lib.hid hv
  have H7 := Lib.hid (fun W => lawKnown W)
  obtain ⟨vs, hvs, hvl, hvt⟩ := hv
  obtain ⟨ao, cap, rfl, hlc, hcm⟩ := hvs.form
  obtain ⟨n, hn⟩ : ∃ n, l.length = n := ⟨_, rfl⟩
  rw [hvl, hn] at hlc hvs HH HV ⊢
  have HVS := Lib.hid (fun i x (hx : vs[i]? = some x) => hvs.at_ i x hx)
  have HVT := Lib.hid hvt
  have HVL := Lib.hid hvl
  have HN := Lib.hid hn
  obtain ⟨hb, hhb⟩ : ∃ hb, heavyGo l 0 = hb := ⟨_, rfl⟩
  have hle := heavyGo_le l 0
  rw [hhb] at HH hle
  clear hvs hvt hvl hn hhb
  cases hb with
  | true =>
    clear hle
    go_enter Try.func7, Try.ntmps7
    go_wp2_with (go_at_call 11; refine HH.out.mono ?_; rintro e w1 ⟨rfl, m1, rfl⟩)
    go_ret
    exact ⟨rfl, below_drewN (Below.refl _ _) _⟩
  | false =>
    by_cases h60 : 60 < n
    · have d1 : decide ((60 : Int) < (n : Int)) = true := decide_eq_true (by omega)
      clear hle
      go_enter Try.func7, Try.ntmps7
      go_wp2_with (go_at_call 11; refine HH.out.mono ?_; rintro e w1 ⟨rfl, m1, rfl⟩)
      go_ret
      exact ⟨rfl, below_drewN (Below.refl _ _) _⟩
    · have d1 : decide ((60 : Int) < (n : Int)) = false := decide_eq_false (by omega)
      have hle := hle rfl
      have HLE := Lib.hid hle
      have hrow : (rowOf l).length ≤ 65536 := by
        rw [rowOf_length]
        have : ∀ k, k ≤ l.length → stOf l k ≤ k * 801 := by
          intro k
          induction k with
          | zero => simp
          | succ k ih =>
            intro h
            have h1 := ih (by omega)
            rw [stOf_succ _ _ (by omega), List.getD_eq_getElem?_getD, List.getElem?_eq_getElem (by omega)]
            have h2 := hle _ (List.getElem_mem (show k < l.length by omega))
            simp only [Option.getD_some]
            omega
        have h2 := this l.length (Nat.le_refl _)
        have h3 := HN.out
        omega
      have HROW := Lib.hid hrow
      clear hle hrow
      go_enter Try.func7, Try.ntmps7
      go_wp2_with (first
        | (go_at_call 11; refine HH.out.mono ?_; rintro e w1 ⟨rfl, m1, rfl⟩)
        | (go_at_call 10
           refine (fmBuild _ _ l (by have := HN.out; omega) (fun t ht => by have := HLE.out t ht; omega) (HV.out.below (below_drewN (Below.refl _ _) m1))).mono ?_
           rintro e w2 hb
           rw [BuildOk, if_pos HROW.out] at hb
           obtain ⟨b, sa, rfl, hh, hB2⟩ := hb
           have hB2 := below_up (below_drewN (Below.refl w.heap.size w) m1) hB2 (Nat.le_refl _)
           have HI := Lib.hid hh
           clear hh)
        | (go_at_call 17
           refine (idxDocs _ _ _ _ _ (HI.out.at_ (Below.refl _ _)) (by rw [stL_len]; omega)).mono ?_
           rintro e w3 ⟨rfl, rfl⟩
           rw [stL_len, HN.out, Nat.add_sub_cancel]))
      go_loopw [5] (fun tk wr => ∃ k : Nat, k ≤ n ∧ tk = .int .i64 k ∧ Below w2.heap.size w2 wr) (fun tk _ => n - (intOf tk).toNat)
      case atStart => exact ⟨0, Nat.zero_le _, rfl, Below.refl _ _⟩
      case round =>
        obtain ⟨k, hk, rfl, hBr⟩ := hrel
        have hB := below_up hB2 hBr hB2.size
        by_cases hlt : k < n
        · have hkl : k < l.length := by rw [HN.out]; exact hlt
          have hkv : k < vs.length := by rw [HVL.out]; exact hkl
          obtain ⟨x, hx⟩ : ∃ x, vs[k]? = some x := ⟨_, List.getElem?_eq_getElem hkv⟩
          obtain ⟨bo, off, rfl, cx⟩ := HVS.out k x hx
          have hsx := HVT.out k l[k] x (List.getElem?_eq_getElem hkl) hx
          have hsx := hsx.below hB
          have cx := cell_below hB cx
          have htl := HLE.out _ (List.getElem_mem hkl)
          have hgd : l.getD k [] = l[k] := by rw [List.getD_eq_getElem?_getD, List.getElem?_eq_getElem hkl]; rfl
          have L1 := fun W (h : Below wr.heap.size wr W) => idxLenOf b l sa W k (HI.out.at_ (hBr.trans (h.mono hBr.size)))
          have L2 := fun W (h : Below wr.heap.size wr W) => extractAll b l sa W k (HI.out.at_ (hBr.trans (h.mono hBr.size))) hkl
          rw [lenOf, if_pos (by omega), Int.toNat_natCast] at L1
          rw [hgd] at L1 L2
          obtain ⟨t, ht⟩ : ∃ t, l[k] = t := ⟨_, rfl⟩
          rw [ht] at L1 L2 hsx htl
          obtain ⟨ao2, cap2, rfl, hlc2, hcm2⟩ := hsx.form
          rw [bytes_length] at cx hlc2
          obtain ⟨c, hc⟩ : ∃ c, t.length = c := ⟨_, rfl⟩
          rw [hc] at cx hlc2 L1 L2 htl
          rw [bytes_length, hc] at hsx
          have HSX := Lib.hid hsx
          have HL1 := Lib.hid L1
          have HL2 := Lib.hid L2
          have HT := Lib.hid hc
          clear hsx hx ht hc hgd L1 L2
          go_wp2
          have hD : Below wr.heap.size wr wr.drew := (Below.refl _ _).drew
          have hS : (Cells1 ⟨bo, off + k, none⟩ (.slice ao2 (c : Nat) cap2)) wr.drew := cell_below hD cx
          have hS1 : ∀ w1, Below wr.heap.size wr w1 → (Cells1 ⟨bo, off + k, none⟩ (.slice ao2 (c : Nat) cap2)) w1 := fun w1 h => cell_below h cx
          have HS1 := Lib.hid hS1
          clear hS1
          refine wp_region_chain (Cells1 ⟨bo, off + k, none⟩ (.slice ao2 (c : Nat) cap2)) [([true, true, false, true, true, true, true, true], [false, false, true, false, false, false, false, false, true, true]), ([false, false, false, false, false, false, false, false, false, false, true, true, true, true, true, true, true, true, false, true, true, true, true], [false, false, false, false, false, false, false, false, false, false, false, false, false, false, false, false, false, false, true, false, false, false, false, true, true])] [false, false, false, false, false, false, false, false, false, false, false, false, false, false, false, false, false, false, false, false, false, false, false, false, false, true] (by kernel_rfl) (by kernel_rfl) (fun _ _ d _ _ h => by cases d <;> exact h) ?_
          simp only [wpStages, selM]
          refine ⟨hS, ?_⟩
          have hne := meets_ne hS
          have y0 := Cells1.e1 (a := ⟨bo, off + k, none⟩) (u := .slice ao2 (c : Nat) cap2)
          repeat (go_big_quiet_step (fail))
          refine wpQuiet_nil ?_
          refine pre_cons ?_
          go_wp2_with (go_at_call 14; refine (HL1.out _ hD).mono ?_; rintro e w3 ⟨rfl, m3, hw3⟩; have hD3 : Below wr.heap.size wr w3 := (by rw [hw3]; exact below_drewN hD m3); clear hw3)
          refine mid_normal ⟨HS1.out _ hD3, pre_cons ?_⟩
          go_wp2
          refine mid_normal ⟨HS1.out _ hD3, pre_cons ?_⟩
          go_wp2
          refine mid_normal ⟨HS1.out _ hD3, pre_nil ⟨HS1.out _ hD3, ?_⟩⟩
          repeat (go_big_quiet_step (fail))
          refine wpQuiet_nil ?_
          refine pre_cons ?_
          go_wp2_with (go_at_call 16; refine (HL2.out _ hD3).mono ?_; rintro e w4 ⟨v4, rfl, hs4, hB4⟩; have HS4 := Lib.hid hs4)
          have hD4 := below_up hD3 hB4 hD3.size
          refine mid_normal ⟨HS1.out _ hD4, pre_cons ?_⟩
          go_wp2_with (go_at_call 15; refine (lawSame _ _ _ t (by have := HT.out; omega) HS4.out (HSX.out.below hD4)).mono ?_; rintro e w5 ⟨rfl, m5, hw5⟩; have hD5 : Below wr.heap.size wr w5 := (by rw [hw5]; exact below_drewN hD4 m5); clear hw5)
          refine mid_normal ⟨HS1.out _ hD5, pre_cons ?_⟩
          go_wp2
          refine mid_normal ⟨HS1.out _ hD5, pre_nil ?_⟩
          go_wp2
          go_roundw
          case rel => exact ⟨k + 1, by omega, by go_num, below_up hBr hD5 hBr.size⟩
          case measure => simp [intOf]; omega
        · obtain rfl : k = n := by omega
          go_wp2_with (go_at_call 9; refine (H7.out _).mono ?_; rintro e w7 ⟨rfl, hb7⟩; have hb7 := below_up hB hb7 hB.size)
          go_ret
          exact ⟨rfl, hb7⟩
end Go.Proofs.Ythgnapngjmgkcaa
