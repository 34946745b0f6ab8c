import Derived.Test.YthgnapngjmgkcaaLawBytes
import Derived.Test.YthgnapngjmgkcaaChain
/- Package haystacklaw7: FmLonger returns true. -/
namespace Go.Proofs.Ythgnapngjmgkcaa
open Go.RowKit Go.Shelf

theorem hits_sub (l : List (List UInt8)) (p m : List UInt8) {i : Nat} {x : Nat × Nat} (h : (hitsOf l (p ++ m))[i]? = some x) : ∃ q : Nat, (hitsOf l p)[q]? = some x := by
  have h1 := List.mem_of_getElem? h
  obtain ⟨d, o⟩ := x
  rw [mem_hitsOf] at h1
  have h2 : (d, o) ∈ hitsOf l p := (mem_hitsOf l p d o).2 ⟨h1.1, h1.2.1, (List.prefix_append p m).trans h1.2.2⟩
  exact List.getElem?_of_mem h2
theorem hitLt_irrefl (x : Nat × Nat) : ¬ hitLt x x := by rintro (h | h) <;> omega
theorem hitLt_trans {x y z : Nat × Nat} (h : hitLt x y) (k : hitLt y z) : hitLt x z := by
  unfold hitLt at *; omega
theorem hits_at {l : List (List UInt8)} {p : List UInt8} {i j : Nat} {x y : Nat × Nat} (hi : (hitsOf l p)[i]? = some x) (hj : (hitsOf l p)[j]? = some y) (h : i < j) : hitLt x y := by
  obtain ⟨h1, rfl⟩ := List.getElem?_eq_some_iff.1 hi
  obtain ⟨h2, rfl⟩ := List.getElem?_eq_some_iff.1 hj
  exact List.pairwise_iff_getElem.1 (hitsOf_sorted l p) i j h1 h2 h
/-- one place stands in one row of places, and in another, which holds it: the next of the one lies behind in the other -/
theorem hits_next {l : List (List UInt8)} {p r : List UInt8} {i k q : Nat} {x y : Nat × Nat} (hx : (hitsOf l r)[i]? = some x) (hy : (hitsOf l r)[i + 1]? = some y) (hk : (hitsOf l p)[k]? = some x) (hq : (hitsOf l p)[q]? = some y) : k ≤ q := by
  have h1 := hits_at hx hy (Nat.lt_succ_self i)
  rcases Nat.lt_or_ge q k with h | h
  · exact absurd (hitLt_trans (hits_at hq hk h) h1) (hitLt_irrefl _)
  · exact h
theorem HitSl.get {w : World} {ao : Option Addr} {n cap : Nat} {l : List (Nat × Nat)} (h : HitSl w (.slice ao n cap) l) {i : Nat} {x : Nat × Nat} (hx : l[i]? = some x) :
    ∃ b off, ao = some ⟨b, off, none⟩ ∧ w.cell? ⟨b, off + i * 2, none⟩ = some (.int .i64 (x.1 : Nat)) ∧ w.cell? ⟨b, off + i * 2 + 1, none⟩ = some (.int .i64 (x.2 : Nat)) := by
  obtain ⟨ao', cap', e, _, _, h3⟩ := h
  injection e with e1 e2 e3
  obtain ⟨b, off, e4, h4⟩ := h3 (by rintro rfl; simp at hx)
  exact ⟨b, off, e1.trans e4, h4 i x hx⟩

theorem hit_facts {l : List (List UInt8)} {p : List UInt8} {i d o : Nat} (h : (hitsOf l p)[i]? = some (d, o)) (hp : 0 < p.length) (hle : ∀ t ∈ l, t.length ≤ 800) : d < l.length ∧ o + p.length ≤ (l.getD d []).length ∧ (l.getD d []).length ≤ 800 := by
  have h1 := (mem_hitsOf l p d o).1 (List.mem_of_getElem? h)
  refine ⟨h1.1, hit_place (by rintro rfl; simp at hp) h1.2.2, ?_⟩
  rw [List.getD_eq_getElem?_getD, List.getElem?_eq_getElem h1.1]
  exact hle _ (List.getElem_mem _)
/-- bytes, which may be none, behind a row of one's own -/
theorem app_bytes {w : World} {ops : Array Oper} {rest : List Oper} {o : Oper} {a : Act} {Q : Exit → Act → World → Prop} (hgd : o.guard = none) (s x : Operand) (ho : o.op = .call { callee := .builtin .append, args := #[s, x], argTypes := #[24, 24] })
    (base : Nat) (v : Value) (n : Nat) (xs : List Value) (hs : a.eval s = v) (hown : w.ownsRow base 5 1 v n xs) (vx : Value) (m : List UInt8) (hx : a.eval x = vx) (hvx : Sl w vx (bytes m)) (hb : n + m.length ≤ 1048576) (hbase : base ≤ w.heap.size)
    (h : ∀ v' w', w'.ownsRow base 5 1 v' (n + m.length) (xs ++ bytes m) → w.grownBy w' v.ownBlock → wpList Try.prog ops Q rest (a.put o.dst v') w') : wpList Try.prog ops Q (o :: rest) a w := by
  obtain ⟨i0, hi0, hz0, hz1, hz2⟩ := info_parts Try.info_u8
  obtain ⟨ao, cap, rfl, hl, hcm⟩ := hvx.form
  have hcells := fun j u hu => hvx.at_ j u hu
  rw [bytes_length] at hl hx
  cases ao with
  | none =>
    have hc0 : cap = 0 := by
      obtain ⟨ao', cap', e, _, _, hz, _⟩ := hvx
      obtain ⟨e1, _, e3⟩ := Value.slice.inj e
      rw [e3]; exact hz e1.symm
    subst hc0
    have hm : m = [] := List.eq_nil_of_length_eq_zero (by omega)
    subst hm
    exact wpList_append_own_none hgd s x 24 ho base 5 i0 1 Try.underlying24 hi0 v n xs hs hown hx (h v w (by simpa [bytes] using hown) ⟨rfl, rfl, rfl, Nat.le_refl _, fun _ _ _ => rfl⟩)
  | some ad =>
    refine wpList_append_own w hgd s x 24 ho base 5 i0 _ 1 1 Try.underlying24 hi0 hz0 hz1 hz2 rfl (by omega) v n xs hs hown ad m.length cap (bytes m) hx (by simp) (fun j u hu => ?_) (fun u hu => ?_) (by unfold maxLen; omega) (by omega) hbase (fun v' w' h1 h2 _ => h v' w' h1 h2)
    · obtain ⟨b, off, e, hc⟩ := hcells j u hu
      cases e
      rw [show (⟨b, off, none⟩ : Addr).add j = ⟨b, off + j, none⟩ by unfold Addr.add; split <;> simp_all]
      exact hc
    · obtain ⟨c, _, rfl⟩ := List.mem_map.1 hu
      rfl

set_option maxRecDepth 100000 in
set_option maxHeartbeats 4000000 in
theorem walkLonger (w : World) (v : Value) (l : List (List UInt8)) (vp : Value) (p : List UInt8) (vm : Value) (m : List UInt8) (hv : Texts w v l) (hp : Sl w vp (bytes p)) (hm : Sl w vm (bytes m)) (hpl : p.length ≤ 140737488355328) (hml : m.length ≤ 140737488355328) :
    Calls Try.prog 5 #[v, vp, vm] w fun e w' => e = .returned (.bool true) ∧ Below w.heap.size w w' := by
  have HH := Lib.hid (lawHeavyB w v l hv)
  have HV := Lib.hid hv
  have HP := Lib.hid hp
  have HM := Lib.hid hm
  have H7 := Lib.hid (fun W => lawKnown W)
  obtain ⟨vs, hvs, hvl, hvt⟩ := hv
  obtain ⟨ao, cap, rfl, hlc, hcm⟩ := hvs.form
  obtain ⟨aop, capp, rfl, hlp, hcp⟩ := hp.form
  obtain ⟨aom, capm, rfl, hlm, hcmm⟩ := hm.form
  obtain ⟨n, hn⟩ : ∃ n, l.length = n := ⟨_, rfl⟩
  obtain ⟨pl, hpn⟩ : ∃ pl, p.length = pl := ⟨_, rfl⟩
  obtain ⟨ml, hmn⟩ : ∃ ml, m.length = ml := ⟨_, rfl⟩
  rw [hvl, hn] at hlc hvs HH HV ⊢
  rw [bytes_length, hpn] at HP hlp hp ⊢
  rw [bytes_length, hmn] at HM hlm hm ⊢
  rw [hpn] at hpl
  rw [hmn] at hml
  have HN := Lib.hid hn
  have HPN := Lib.hid hpn
  have HMN := Lib.hid hmn
  obtain ⟨hb, hhb⟩ : ∃ hb, heavyGo l 0 = hb := ⟨_, rfl⟩
  have hle := heavyGo_le l 0
  rw [hhb] at HH hle
  clear hvs hvt hvl hn hhb hp hm hpn hmn
  cases hb with
  | true =>
    clear hle
    go_enter Try.func5, Try.ntmps5
    go_wp2_with (go_at_call 11; refine HH.out.mono ?_; rintro e w1 ⟨rfl, m1, rfl⟩)
    go_ret
    exact ⟨rfl, below_drewN (Below.refl _ _) _⟩
  | false =>
    by_cases hno : 40 < n ∨ 50 < pl + ml ∨ pl = 0
    · have hd : (decide ((40 : Int) < (n : Int)) = true) ∨ (decide ((40 : Int) < (n : Int)) = false ∧ decide ((50 : Int) < (pl : Int) + (ml : Int)) = true) ∨ (decide ((40 : Int) < (n : Int)) = false ∧ decide ((50 : Int) < (pl : Int) + (ml : Int)) = false ∧ pl = 0) := by
        simp only [decide_eq_true_eq, decide_eq_false_iff_not]; omega
      clear hle hno
      rcases hd with d1 | ⟨d1, d2⟩ | ⟨d1, d2, d3⟩
      · go_enter Try.func5, Try.ntmps5
        go_wp2_with (go_at_call 11; refine HH.out.mono ?_; rintro e w1 ⟨rfl, m1, rfl⟩)
        go_ret
        exact ⟨rfl, below_drewN (Below.refl _ _) _⟩
      · go_enter Try.func5, Try.ntmps5
        go_wp2_with (go_at_call 11; refine HH.out.mono ?_; rintro e w1 ⟨rfl, m1, rfl⟩)
        go_ret
        exact ⟨rfl, below_drewN (Below.refl _ _) _⟩
      · subst d3
        have d4 : decide ((50 : Int) < (ml : Int)) = false := decide_eq_false (by have := of_decide_eq_false d2; omega)
        clear d2
        go_enter Try.func5, Try.ntmps5
        go_wp2_with (go_at_call 11; refine HH.out.mono ?_; rintro e w1 ⟨rfl, m1, rfl⟩)
        go_ret
        exact ⟨rfl, below_drewN (Below.refl _ _) _⟩
    · have hn40 : n ≤ 40 := by omega
      have hpm : pl + ml ≤ 50 := by omega
      have hp0 : 0 < pl := by omega
      have d1 : decide ((40 : Int) < (n : Int)) = false := decide_eq_false (by omega)
      have d2 : decide ((50 : Int) < (pl : Int) + (ml : Int)) = false := decide_eq_false (by omega)
      have d3 : decide (pl = 0) = false := decide_eq_false (by omega)
      have hle := hle rfl
      have HLE := Lib.hid hle
      have HROW := Lib.hid (row_fits l hle (by have := HN.out; omega))
      obtain ⟨i0, hi0, hz0, hz1, hz2⟩ := info_parts Try.info_u8
      obtain ⟨bp, offp, rfl⟩ : ∃ bp offp, aop = some ⟨bp, offp, none⟩ := by
        obtain ⟨bp, offp, e, _⟩ := HP.out.at_ 0 _ (bytes_get p 0 (by have := HPN.out; omega))
        exact ⟨bp, offp, e⟩
      clear hle hno hpl hml
      go_enter Try.func5, Try.ntmps5
      go_wp2_with (first
        | (go_at_call 11; refine HH.out.mono ?_; rintro e w1 ⟨rfl, m1, hw1⟩; have hB1 : Below w.heap.size w w1 := (by rw [hw1]; exact below_drewN (Below.refl _ _) m1); clear hw1)
        | (go_at_call 10
           refine (fmBuild _ _ l (by have := HN.out; omega) (fun t ht => by have := HLE.out t ht; omega) (HV.out.below hB1)).mono ?_
           rintro e w2 hb
           rw [BuildOk, if_pos HROW.out] at hb
           obtain ⟨b0, sa, rfl, hh, hB2⟩ := hb
           have hB2 := below_up hB1 hB2 hB1.size
           have HI := Lib.hid hh
           clear hh)
        | (go_at_call 13
           have hq := HS2
           refine (idxLocate _ l _ _ _ (p ++ m) (HI.out.at_ (below_up hB23 hb2 hB23.size)) (by have := HPN.out; simp; omega) (by have := HPN.out; have := HMN.out; simp; omega) HS2.out).mono ?_
           rintro e w6 ⟨vb, rfl, hsb, hB6⟩
           obtain ⟨aob, capb, rfl, hlb, hmb, _⟩ := id hsb
           obtain ⟨nb, hnb⟩ : ∃ nb, (hitsOf l (p ++ m)).length = nb := ⟨_, rfl⟩
           rw [hnb] at hsb hlb ⊢
           have HNB := Lib.hid hnb
           clear hnb
           have hB6 := below_up hb2 hB6 hb2.size
           have HSB := Lib.hid hsb
           clear hsb)
        | (go_at_call 13
           refine (idxLocate _ l _ _ _ p (HI.out.at_ (Below.refl _ _)) (by have := HPN.out; omega) (by have := HPN.out; omega) (HP.out.below hB2)).mono ?_
           rintro e w3 ⟨va, rfl, hsa, hB3⟩
           obtain ⟨aoa, capa, rfl, hla, hma, _⟩ := id hsa
           obtain ⟨na, hna⟩ : ∃ na, (hitsOf l p).length = na := ⟨_, rfl⟩
           rw [hna] at hsa hla ⊢
           have HNA := Lib.hid hna
           clear hna
           have hB23 := hB3
           have hB3 := below_up hB2 hB3 hB2.size
           have HSA := Lib.hid hsa
           have hown0 : (w3.alloc (.cells #[] 5)).ownsRow w3.heap.size 5 1 (.slice (some ⟨w3.heap.size, 0, none⟩) 0 0) 0 [] := ⟨rfl, .inr ⟨_, 0, #[], rfl, Nat.le_refl _, heap_alloc_new w3 _, Nat.le_refl _, by decide, rfl, rfl⟩⟩
           have HO0 := Lib.hid hown0
           have hb0 := below_alloc w3 (.cells #[] 5)
           clear hsa hown0)
        | (at_builtin
           have hq := HO1
           refine app_bytes rfl _ _ rfl w3.heap.size v1 _ _ rfl HO1.out _ m rfl ((HM.out.below hB3).below hb1) (by have := HPN.out; have := HMN.out; omega) hb1.size ?_
           intro v2 w5 hown2 hgrow2
           have hb2 := hb1.grown hgrow2 hb1.size (fun i hi => (HO1.out.lt i hi).1)
           have hsl2 := own_sl hown2
           rw [List.nil_append, show bytes p ++ bytes m = bytes (p ++ m) by simp [bytes]] at hsl2
           have HS2 := Lib.hid hsl2
           clear hgrow2 hown2 hsl2)
        | (at_builtin
           have hq := HO0
           refine app_bytes rfl _ _ rfl w3.heap.size _ 0 [] rfl HO0.out _ p rfl ((HP.out.below hB3).below hb0) (by have := HPN.out; omega) (by simp) ?_
           intro v1 w4 hown1 hgrow1
           have hb1 := hb0.grown hgrow1 (by simp) (fun i hi => (HO0.out.lt i hi).1)
           have HO1 := Lib.hid hown1
           clear hgrow1 hown1))
      have HB36 := Lib.hid hB6
      have HB26 := Lib.hid (below_up hB23 hB6 hB23.size)
      have hBw := below_up hB3 hB6 hB3.size
      clear d1 d2 d3 hb0 hb1 hb2
      go_loopw [11, 12] (fun tk ti wr => ∃ k i : Nat, i ≤ nb ∧ k ≤ na ∧ tk = .int .i64 k ∧ ti = .int .i64 i ∧ Hid (∀ (q : Nat) (x : Nat × Nat), (hitsOf l (p ++ m))[i]? = some x → (hitsOf l p)[q]? = some x → k ≤ q) ∧ Below w6.heap.size w6 wr) (fun _ ti _ => nb - (intOf ti).toNat)
      case atStart => exact ⟨0, 0, Nat.zero_le _, Nat.zero_le _, rfl, rfl, Lib.hid (fun _ _ _ _ => Nat.zero_le _), Below.refl _ _⟩
      case round =>
        obtain ⟨k, i, hi, hk, rfl, rfl, hinv, hBr⟩ := hrel
        by_cases hlt : i < nb
        · obtain ⟨x, hx⟩ : ∃ x, (hitsOf l (p ++ m))[i]? = some x := ⟨_, List.getElem?_eq_getElem (by rw [HNB.out]; exact hlt)⟩
          obtain ⟨q, hq⟩ := hits_sub l p m hx
          have hkq := hinv.out q x hx hq
          have hqn : q < na := by have := (List.getElem?_eq_some_iff.1 hq).1; rw [HNA.out] at this; exact this
          obtain ⟨bb, ob, rfl, y1, y2⟩ := HSB.out.get hx
          obtain ⟨ba, oa, rfl, _, _⟩ := HSA.out.get hq
          have HX := Lib.hid hx
          have HQ := Lib.hid hq
          obtain ⟨xd, xo⟩ := x
          dsimp only at y1 y2
          clear hx hq hinv
          obtain ⟨wo, hwo⟩ : ∃ wo, wo = wr := ⟨_, rfl⟩
          subst hwo
          go_wp2
          go_loopw [11] (fun tk wr => ∃ k : Nat, k ≤ q ∧ tk = .int .i64 k ∧ Below w6.heap.size w6 wr) (fun tk _ => q - (intOf tk).toNat)
          case atStart => exact ⟨k, hkq, rfl, hBr⟩
          case round =>
            obtain ⟨k, hk, rfl, hBr⟩ := hrel
            have hkn : k < na := by omega
            obtain ⟨z, hz⟩ : ∃ z, (hitsOf l p)[k]? = some z := ⟨_, List.getElem?_eq_getElem (by rw [HNA.out]; exact hkn)⟩
            obtain ⟨ba2, oa2, e2, z1, z2⟩ := HSA.out.get hz
            cases e2
            have hB3r := below_up HB36.out hBr HB36.out.size
            have z1 := cell_below hB3r z1
            have z2 := cell_below hB3r z2
            have x1 := cell_below hBr y1
            have x2 := cell_below hBr y2
            obtain ⟨zd, zo⟩ := z
            dsimp only at z1 z2
            have HZ := Lib.hid hz
            clear hz
            by_cases hzx : zd = xd ∧ zo = xo
            · obtain ⟨rfl, rfl⟩ := hzx
              have hpl := hit_facts HX.out (by rw [List.length_append]; have := HPN.out; omega) HLE.out
              rw [List.length_append, HPN.out, HMN.out] at hpl
              have L1 := fun W (h : Below wr.heap.size wr W) => idxLenOf b0 l sa W zd (HI.out.at_ ((HB26.out.trans ((hBr.trans (h.mono hBr.size)).mono HB26.out.size))))
              have hlz : lenOf l zd = (l.getD zd []).length := by rw [lenOf, if_pos (by have := hpl.1; omega), Int.toNat_natCast]
              rw [hlz] at L1
              obtain ⟨c, hc⟩ : ∃ c, (l.getD zd []).length = c := ⟨_, rfl⟩
              rw [hc] at L1 hpl
              obtain ⟨_, hq1, hq2⟩ := hpl
              obtain ⟨g1, hg1⟩ : ∃ g1, zo + pl = g1 := ⟨_, rfl⟩
              obtain ⟨g2, hg2⟩ : ∃ g2, g1 + ml = g2 := ⟨_, rfl⟩
              have s1 : IntKind.i64.wrap ((zo : Int) + (pl : Int)) = (g1 : Int) := by rw [IntWalk.i64_in _ (by omega)]; omega
              have s2 : IntKind.i64.wrap ((g1 : Int) + (ml : Int)) = (g2 : Int) := by rw [IntWalk.i64_in _ (by omega)]; omega
              have s3 : decide (c < g2) = false := decide_eq_false (by omega)
              have s4 : ((k : Int) = (na : Int)) = False := eq_false (by omega)
              have HL1 := Lib.hid L1
              have HKQ := Lib.hid hkq
              clear L1 hlz hc hq1 hq2 hg1 hg2
              go_wp2
              go_quiet (fail)
              go_wp2
              obtain ⟨wq, hwq⟩ : ∃ wq, wq = wr.drewN nq := ⟨_, rfl⟩
              rw [← hwq]
              have hBq : Below wr.heap.size wr wq := by rw [hwq]; exact below_drewN (Below.refl _ _) _
              clear hwq
              have hD : Below wr.heap.size wr wq.drew := hBq.drew
              have hS : (Cells2 ⟨bb, ob + i * 2, none⟩ ⟨bb, ob + i * 2 + 1, none⟩ (.int .i64 (zd : Nat)) (.int .i64 (zo : Nat))) wq.drew := ⟨cell_below hD x1, cell_below hD x2⟩
              have hS1 : ∀ w1, Below wr.heap.size wr w1 → (Cells2 ⟨bb, ob + i * 2, none⟩ ⟨bb, ob + i * 2 + 1, none⟩ (.int .i64 (zd : Nat)) (.int .i64 (zo : Nat))) w1 := fun w1 h => ⟨cell_below h x1, cell_below h x2⟩
              have HS1 := Lib.hid hS1
              clear hS1
              refine wp_region_chain (Cells2 ⟨bb, ob + i * 2, none⟩ ⟨bb, ob + i * 2 + 1, none⟩ (.int .i64 (zd : Nat)) (.int .i64 (zo : Nat))) [([true, true, true, true, true, true, true, true, true, true, true, true, true, true, true, true, true, true, true, true, true, true], [false, false, false, false, false, false, false, false, false, false, false, false, false, false, false, false, false, false, false, false, false, false, true, true])] [false, false, false, false, false, false, false, false, false, false, false, false, false, false, false, false, false, false, false, false, false, false, false, false, true] (by kernel_rfl) (by kernel_rfl) (fun _ _ d _ _ h => by cases d <;> exact h) ?_
              simp only [wpStages, selM]
              refine ⟨hS, ?_⟩
              have hne := meets_ne hS
              have y5 := Cells2.e1 (a := ⟨bb, ob + i * 2, none⟩) (b := ⟨bb, ob + i * 2 + 1, none⟩) (u := .int .i64 (zd : Nat)) (v := .int .i64 (zo : Nat))
              have y6 := Cells2.e2 (a := ⟨bb, ob + i * 2, none⟩) (b := ⟨bb, ob + i * 2 + 1, none⟩) (u := .int .i64 (zd : Nat)) (v := .int .i64 (zo : Nat))
              repeat (first | go_big_quiet_step (fail) | quiet_step (fail))
              refine wpQuiet_nil ?_
              refine pre_cons ?_
              go_wp2_with (go_at_call 14; refine (HL1.out _ hD).mono ?_; rintro e w8 ⟨rfl, m8, hw8⟩; have hD8 : Below wr.heap.size wr w8 := (by rw [hw8]; exact below_drewN hD m8); clear hw8)
              refine mid_normal ⟨HS1.out _ hD8, pre_cons ?_⟩
              go_wp2
              refine mid_normal ⟨HS1.out _ hD8, pre_nil ?_⟩
              go_wp2
              go_roundw
              case rel =>
                refine ⟨k, i + 1, by omega, by omega, rfl, by go_num, Lib.hid (fun q' x' h1 h2 => ?_), below_up hBr hD8 hBr.size⟩
                exact hits_next HX.out h1 HZ.out h2
              case measure => simp [intOf]; omega
            · have hff : (((zd : Int) = (xd : Int)) = False) ∨ (((zd : Int) = (xd : Int)) = True ∧ ((zo : Int) = (xo : Int)) = False) := by
                by_cases e : zd = xd
                · exact .inr ⟨eq_true (by omega), eq_false (fun h => hzx ⟨e, by omega⟩)⟩
                · exact .inl (eq_false (by omega))
              have hne : k ≠ q := by
                rintro rfl
                have := HZ.out.symm.trans HQ.out
                injection this with h1
                injection h1 with h2 h3
                exact hzx ⟨h2, h3⟩
              clear hzx
              rcases hff with f1 | ⟨f1, f2⟩
              all_goals
                go_wp2
                go_quiet (fail)
                go_wp2
                go_roundw
                case rel => exact ⟨k + 1, by omega, by go_num, below_drewN hBr _⟩
                case measure => simp [intOf]; omega
        · obtain rfl : i = nb := by omega
          go_wp2_with (go_at_call 9; refine (H7.out _).mono ?_; rintro e w7 ⟨rfl, hb7⟩; have hb7 := below_up hBw (below_up hBr hb7 hBr.size) hBw.size)
          go_ret
          exact ⟨rfl, hb7⟩
end Go.Proofs.Ythgnapngjmgkcaa
