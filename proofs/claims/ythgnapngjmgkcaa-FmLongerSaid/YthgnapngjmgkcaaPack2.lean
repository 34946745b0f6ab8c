import Derived.Test.YthgnapngjmgkcaaPack1
/- Package packed: Set. -/
namespace Go.Proofs.Ythgnapngjmgkcaa
open Go.RowKit

theorem IsPackAt.cells {w : World} {b bw wd n : Nat} {f : Nat → Bool} (h : IsPackAt w b bw wd n f) :
    ∃ L, (wd * n + 63) / 64 = L ∧ w.cell? ⟨b, 0, none⟩ = some (.int .i64 wd) ∧ w.cell? ⟨b, 1, none⟩ = some (.int .i64 n) ∧ w.cell? ⟨b, 2, none⟩ = some (.slice (some ⟨bw, 0, none⟩) L L) ∧
      (∀ k, w.frozen? ⟨bw, k, none⟩ = false) ∧ ∀ k, k < L → w.cell? ⟨bw, k, none⟩ = some (.int .u64 (word64 f k)) := by
  obtain ⟨h1, h2, h3, _⟩ := h
  refine ⟨_, rfl, (cell_heap h1).trans rfl, (cell_heap h1).trans rfl, (cell_heap h1).trans rfl, fun k => by simp [World.frozen?, h2], fun k hk => ?_⟩
  rw [cell_heap h2, List.getElem?_toArray, wordsOf_get _ _ k hk]

/-- one word is another one -/
theorem IsPackAt.set {w : World} {b bw wd n : Nat} {f f' : Nat → Bool} (h : IsPackAt w b bw wd n f) (k : Nat) (hk : ∀ j, j ≠ k → word64 f' j = word64 f j) (m : Nat) :
    IsPackAt ((w.setCell ⟨bw, k, none⟩ (.int .u64 (word64 f' k))).drewN m) b bw wd n f' := by
  obtain ⟨h1, h2, h3, h4⟩ := h
  refine ⟨?_, ?_, h3, h4⟩
  · rw [World.heap_drewN, Below.heap_setCell _ _ _ _ (Ne.symm h3)]; exact h1
  · show (w.setCell ⟨bw, k, none⟩ (.int .u64 (word64 f' k))).heap[bw]? = _
    simp only [World.setCell, Array.getElem?_modify, h2]
    simp only [if_true, Option.map_some, Option.isSome_none, Bool.false_eq_true, if_false]
    congr 2
    apply Array.ext_getElem?
    intro j
    rw [Array.getElem?_setIfInBounds, List.getElem?_toArray, List.getElem?_toArray, List.size_toArray, wordsOf_length]
    by_cases hj : j < (wd * n + 63) / 64
    · by_cases e : k = j
      · subst e
        rw [if_pos rfl, if_pos hj, wordsOf_get _ _ _ hj]
      · rw [if_neg e, wordsOf_get _ _ _ hj, wordsOf_get _ _ _ hj, hk j (Ne.symm e)]
    · by_cases e : k = j
      · subst e
        rw [if_pos rfl, if_neg hj, List.getElem?_eq_none (by simp; omega)]
      · rw [if_neg e, List.getElem?_eq_none (by simp; omega), List.getElem?_eq_none (by simp; omega)]

theorem andnot_mask (v wd : Nat) (hv : v < 2 ^ wd) (hw : wd ≤ 64) : bits .andNot .u64 (v : Int) ((2 ^ wd - 1 : Nat) : Int) = 0 := by
  have h2 : (2 : Nat) ^ wd ≤ 2 ^ 64 := Nat.pow_le_pow_right (by decide) hw
  rw [u64_andNot_nat _ _ (by omega) (by omega)]
  have : v &&& (18446744073709551615 - (2 ^ wd - 1)) = 0 := by
    apply Nat.eq_of_testBit_eq
    intro t
    rw [Nat.testBit_and, not_bit _ _ (by omega), Nat.testBit_two_pow_sub_one, Nat.zero_testBit]
    by_cases ht : t < wd
    · simp [ht]
    · rw [Nat.testBit_lt_two_pow (Nat.lt_of_lt_of_le hv (Nat.pow_le_pow_right (by decide) (by omega)))]; simp
  rw [this]; rfl

set_option maxHeartbeats 1000000 in
theorem packSetLow (b bw wd n i v : Nat) (f : Nat → Bool) (w : World) (h : IsPackAt w b bw wd n f) (hi : i < n) (hv : v < 2 ^ wd) (hs : i * wd % 64 + wd ≤ 64) :
    Calls Try.prog 61 #[.pointer (some ⟨b, 0, none⟩), .int .i64 i, .int .u64 v] w fun e w' => e = .returned (.int .i64 0) ∧ IsPackAt w' b bw wd n (lay f (i * wd) wd v) ∧ Keeps (· = bw) w w' := by
  have hh := h
  obtain ⟨L, hL, c0, c1, c2, hfz, hc⟩ := h.cells
  obtain ⟨_, _, hbb, hw1, hw, hn⟩ := h
  have hm : i * wd + wd ≤ wd * n := by rw [Nat.mul_comm wd n, ← Nat.succ_mul]; exact Nat.mul_le_mul_right _ hi
  have hb : wd * n ≤ 67108864 := Nat.le_trans (Nat.mul_le_mul hw hn) (by decide)
  have H1 := Lib.hid (set_low f wd (i * wd) v hw hv)
  have H3 := Lib.hid (fun k h1 => lay_other f wd (i * wd) v k h1 (fun _ => hs) hw)
  obtain ⟨p, hp⟩ : ∃ p, i * wd = p := ⟨_, rfl⟩
  have hpi : (i : Int) * (wd : Int) = (p : Int) := by rw [← hp]; simp
  rw [hp] at H1 H3 hs hm ⊢
  have cw := hc (p / 64) (by omega)
  have fz := hfz (p / 64)
  have hlt := word64_lt f (p / 64)
  have hq0 : (0 : Int) ≤ (p : Int) / 64 := by omega
  have hq1 : (p : Int) / 64 < (L : Int) := by omega
  have hq2 : ((p : Int) / 64).toNat = p / 64 := by omega
  have hd : decide ((64 : Int) < (p : Int) % 64 + (wd : Int)) = false := by simp; omega
  have hz : (bits .andNot .u64 (v : Int) ((2 ^ wd - 1 : Nat) : Int) != 0) = false := by rw [andnot_mask v wd hv hw]; rfl
  have hmk := fun w h => packMask b wd n f w h
  have HP := Lib.hid (show IsPack w b wd n f from ⟨bw, hh⟩)
  have HH := Lib.hid hh
  clear hfz hc hp hL hmk hh
  obtain ⟨mk, hmk⟩ : ∃ mk : Nat, 2 ^ wd - 1 = mk := ⟨_, rfl⟩
  have HM := Lib.hid (fun w h => packMask b wd n f w h)
  rw [hmk] at hz HM H1
  clear hmk
  have E : bits .or .u64 (bits .andNot .u64 (word64 f (p / 64)) (IntKind.u64.wrap ((mk : Int) * 2 ^ (p % 64)))) (IntKind.u64.wrap ((v : Int) * 2 ^ (p % 64))) = (word64 (lay f p wd v) (p / 64) : Nat) := by
    have h1 : mk * 2 ^ (p % 64) % 18446744073709551616 < 18446744073709551616 := Nat.mod_lt _ (by decide)
    have h2 : v * 2 ^ (p % 64) % 18446744073709551616 < 18446744073709551616 := Nat.mod_lt _ (by decide)
    have h3 := Nat.and_le_left (n := word64 f (p / 64)) (m := 18446744073709551615 - mk * 2 ^ (p % 64) % 18446744073709551616)
    rw [shl_u64, shl_u64, u64_andNot_nat _ _ hlt h1, u64_or_nat _ _ (by omega) h2, H1.out]
  go_enter Try.func61, Try.ntmps61
  go_wp2_with (first | (go_at_call 67; refine (packHas b wd n i f _ HP.out hi).mono ?_; rintro e w' ⟨rfl, rfl⟩) | (go_at_call 68; refine (HM.out _ HP.out).mono ?_; rintro e w' ⟨rfl, rfl⟩))
  go_quiet (fail)
  go_wp2
  refine wp_region_mix (Cells2 ⟨b, 2, none⟩ ⟨bw, p / 64, none⟩ (.slice (some ⟨bw, 0, none⟩) L L) (.int .u64 (word64 f (p / 64)))) [true, true, true, true, true, true, true, true, true, true, true, true, true, false, true, false, false, true, true, true]
    [false, false, false, false, false, false, false, false, false, false, false, false, false, true, false, true, true, false, false, false, true] [false, false, false, false, false, false, false, false, false, false, false, false, false, false, false, false, false, false, false, false, false, true, true] (by kernel_rfl) (by kernel_rfl) ⟨c2, cw⟩ (fun _ _ d _ _ h => by cases d <;> exact h) ?_
  simp only [selM]
  have hne := meets_ne (S := Cells2 ⟨b, 2, none⟩ ⟨bw, p / 64, none⟩ (.slice (some ⟨bw, 0, none⟩) L L) (.int .u64 (word64 f (p / 64)))) (w := w) ⟨c2, cw⟩
  have y0 := Cells2.e1 (a := ⟨b, 2, none⟩) (b := ⟨bw, p / 64, none⟩) (u := .slice (some ⟨bw, 0, none⟩) L L) (v := .int .u64 (word64 f (p / 64)))
  have y1 := Cells2.e2 (a := ⟨b, 2, none⟩) (b := ⟨bw, p / 64, none⟩) (u := .slice (some ⟨bw, 0, none⟩) L L) (v := .int .u64 (word64 f (p / 64)))
  repeat (go_big_quiet_step (fail))
  refine wpQuiet_nil ?_
  clear y0 y1 hne
  refine pre_cons ?_
  go_wp2_with (go_at_call 68; refine (HM.out _ (HP.out.drewN _)).mono ?_; rintro e w' ⟨rfl, rfl⟩)
  refine mid_normal ⟨⟨c2, cw⟩, pre_cons ?_⟩
  go_wp2
  refine mid_normal ⟨⟨c2, cw⟩, pre_cons ?_⟩
  go_wp2
  refine mid_normal ⟨⟨c2, cw⟩, pre_cons ?_⟩
  go_wp2
  refine mid_normal ⟨⟨c2, cw⟩, pre_nil ?_⟩
  go_wp2
  go_ret
  exact ⟨rfl, HH.out.set (p / 64) H3.out (nq + 1), ((Keeps.refl (· = bw) w).setCell (a := ⟨bw, p / 64, none⟩) rfl _).drewN (nq + 1)⟩
set_option maxHeartbeats 1000000 in
theorem packSetHigh (b bw wd n i v : Nat) (f : Nat → Bool) (w : World) (h : IsPackAt w b bw wd n f) (hi : i < n) (hv : v < 2 ^ wd) (hs : 64 < i * wd % 64 + wd) :
    Calls Try.prog 61 #[.pointer (some ⟨b, 0, none⟩), .int .i64 i, .int .u64 v] w fun e w' => e = .returned (.int .i64 0) ∧ IsPackAt w' b bw wd n (lay f (i * wd) wd v) ∧ Keeps (· = bw) w w' := by
  have hh := h
  obtain ⟨L, hL, c0, c1, c2, hfz, hc⟩ := h.cells
  obtain ⟨_, _, hbb, hw1, hw, hn⟩ := h
  have hm : i * wd + wd ≤ wd * n := by rw [Nat.mul_comm wd n, ← Nat.succ_mul]; exact Nat.mul_le_mul_right _ hi
  have hb : wd * n ≤ 67108864 := Nat.le_trans (Nat.mul_le_mul hw hn) (by decide)
  have H1 := Lib.hid (set_low f wd (i * wd) v hw hv)
  have H2 := Lib.hid (set_high f wd (i * wd) v hw hv)
  have H3 := Lib.hid (fun k h1 h2 => lay_other f wd (i * wd) v k h1 (fun e => absurd e h2) hw)
  obtain ⟨p, hp⟩ : ∃ p, i * wd = p := ⟨_, rfl⟩
  have hpi : (i : Int) * (wd : Int) = (p : Int) := by rw [← hp]; simp
  rw [hp] at H1 H2 H3 hs hm ⊢
  have cw := hc (p / 64) (by omega)
  have fz := hfz (p / 64)
  have fz2 := hfz (p / 64 + 1)
  have cw2 := hc (p / 64 + 1) (by omega)
  have hlt := word64_lt f (p / 64)
  have hq0 : (0 : Int) ≤ (p : Int) / 64 := by omega
  have hq1 : (p : Int) / 64 < (L : Int) := by omega
  have hq2 : ((p : Int) / 64).toNat = p / 64 := by omega
  have hq3 : (0 : Int) ≤ (p : Int) / 64 + 1 := by omega
  have hq4 : (p : Int) / 64 + 1 < (L : Int) := by omega
  have hq5 : ((p : Int) / 64 + 1).toNat = p / 64 + 1 := by omega
  have hlt2 := word64_lt f (p / 64 + 1)
  have hs2 : p % 64 ≤ 64 := by omega
  have hs3 : ((64 : Int) - (p : Int) % 64).toNat = 64 - p % 64 := by omega
  have hd : decide ((64 : Int) < (p : Int) % 64 + (wd : Int)) = true := by simp; omega
  have k2 : ∀ m u, ((w.drewN m).setCell ⟨bw, p / 64, none⟩ u).cell? ⟨b, 2, none⟩ = some (.slice (some ⟨bw, 0, none⟩) L L) := fun m u => (World.cell?_setCell_other _ _ _ _ (by intro e; injection e with e1 e2; exact hbb e1)).trans c2
  have k3 : ∀ m u, ((w.drewN m).setCell ⟨bw, p / 64, none⟩ u).cell? ⟨bw, p / 64 + 1, none⟩ = some (.int .u64 (word64 f (p / 64 + 1))) := fun m u => (World.cell?_setCell_other _ _ _ _ (by intro e; injection e with e1 e2; omega)).trans cw2
  have hz : (bits .andNot .u64 (v : Int) ((2 ^ wd - 1 : Nat) : Int) != 0) = false := by rw [andnot_mask v wd hv hw]; rfl
  have hmk := fun w h => packMask b wd n f w h
  have HP := Lib.hid (show IsPack w b wd n f from ⟨bw, hh⟩)
  have HH := Lib.hid hh
  clear hfz hc hp hL hmk hh
  obtain ⟨mk, hmk⟩ : ∃ mk : Nat, 2 ^ wd - 1 = mk := ⟨_, rfl⟩
  have HM := Lib.hid (fun w h => packMask b wd n f w h)
  have HM2 := Lib.hid (fun w h => packMask b wd n (fun j => if j / 64 = p / 64 then lay f p wd v j else f j) w h)
  rw [hmk] at hz HM HM2 H1 H2
  have hmkl : mk < 18446744073709551616 := by have h4 : (2 : Nat) ^ wd ≤ 2 ^ 64 := Nat.pow_le_pow_right (by decide) hw; omega
  clear hmk
  have E : bits .or .u64 (bits .andNot .u64 (word64 f (p / 64)) (IntKind.u64.wrap ((mk : Int) * 2 ^ (p % 64)))) (IntKind.u64.wrap ((v : Int) * 2 ^ (p % 64))) = (word64 (lay f p wd v) (p / 64) : Nat) := by
    have h1 : mk * 2 ^ (p % 64) % 18446744073709551616 < 18446744073709551616 := Nat.mod_lt _ (by decide)
    have h2 : v * 2 ^ (p % 64) % 18446744073709551616 < 18446744073709551616 := Nat.mod_lt _ (by decide)
    have h3 := Nat.and_le_left (n := word64 f (p / 64)) (m := 18446744073709551615 - mk * 2 ^ (p % 64) % 18446744073709551616)
    rw [shl_u64, shl_u64, u64_andNot_nat _ _ hlt h1, u64_or_nat _ _ (by omega) h2, H1.out]
  have E2 : bits .or .u64 (bits .andNot .u64 (word64 f (p / 64 + 1)) ((mk : Int) / 2 ^ (64 - p % 64))) ((v : Int) / 2 ^ (64 - p % 64)) = (word64 (lay f p wd v) (p / 64 + 1) : Nat) := by
    have h1 := Nat.div_le_self mk (2 ^ (64 - p % 64))
    have h2 := Nat.div_le_self v (2 ^ (64 - p % 64))
    have h3 := Nat.and_le_left (n := word64 f (p / 64 + 1)) (m := 18446744073709551615 - mk / 2 ^ (64 - p % 64))
    have h4 : (2 : Nat) ^ wd ≤ 2 ^ 64 := Nat.pow_le_pow_right (by decide) hw
    rw [shr_u64, shr_u64, u64_andNot_nat _ _ hlt2 (by omega), u64_or_nat _ _ (by omega) (by omega), H2.out]
  go_enter Try.func61, Try.ntmps61
  go_wp2_with (first | (go_at_call 67; refine (packHas b wd n i f _ HP.out hi).mono ?_; rintro e w' ⟨rfl, rfl⟩) | (go_at_call 68; refine (HM.out _ HP.out).mono ?_; rintro e w' ⟨rfl, rfl⟩))
  go_quiet (fail)
  go_wp2
  refine wp_region_mix (Cells2 ⟨b, 2, none⟩ ⟨bw, p / 64, none⟩ (.slice (some ⟨bw, 0, none⟩) L L) (.int .u64 (word64 f (p / 64)))) [true, true, true, true, true, true, true, true, true, true, true, true, true, false, true, false, false, true, true, true]
    [false, false, false, false, false, false, false, false, false, false, false, false, false, true, false, true, true, false, false, false, true] [false, false, false, false, false, false, false, false, false, false, false, false, false, false, false, false, false, false, false, false, false, true, true] (by kernel_rfl) (by kernel_rfl) ⟨c2, cw⟩ (fun _ _ d _ _ h => by cases d <;> exact h) ?_
  simp only [selM]
  have hne := meets_ne (S := Cells2 ⟨b, 2, none⟩ ⟨bw, p / 64, none⟩ (.slice (some ⟨bw, 0, none⟩) L L) (.int .u64 (word64 f (p / 64)))) (w := w) ⟨c2, cw⟩
  have y0 := Cells2.e1 (a := ⟨b, 2, none⟩) (b := ⟨bw, p / 64, none⟩) (u := .slice (some ⟨bw, 0, none⟩) L L) (v := .int .u64 (word64 f (p / 64)))
  have y1 := Cells2.e2 (a := ⟨b, 2, none⟩) (b := ⟨bw, p / 64, none⟩) (u := .slice (some ⟨bw, 0, none⟩) L L) (v := .int .u64 (word64 f (p / 64)))
  repeat (go_big_quiet_step (fail))
  refine wpQuiet_nil ?_
  clear y0 y1 hne
  refine pre_cons ?_
  go_wp2_with (go_at_call 68; refine (HM.out _ (HP.out.drewN _)).mono ?_; rintro e w' ⟨rfl, rfl⟩)
  refine mid_normal ⟨⟨c2, cw⟩, pre_cons ?_⟩
  go_wp2
  refine mid_normal ⟨⟨c2, cw⟩, pre_cons ?_⟩
  go_wp2
  refine mid_normal ⟨⟨c2, cw⟩, pre_cons ?_⟩
  go_wp2
  refine mid_normal ⟨⟨c2, cw⟩, pre_nil ?_⟩
  go_wp2
  have j2 := k2 (nq + 1) (.int .u64 (word64 (lay f p wd v) (p / 64)))
  have j3 := k3 (nq + 1) (.int .u64 (word64 (lay f p wd v) (p / 64)))
  have jP := Lib.hid (HH.out.set (f' := fun j => if j / 64 = p / 64 then lay f p wd v j else f j) (p / 64) (fun j hj => by
    apply Nat.eq_of_testBit_eq
    intro t
    rw [word64_testBit, word64_testBit]
    by_cases ht : t < 64
    · have : ¬ ((64 * j + t) / 64 = p / 64) := by omega
      simp [ht, this]
    · simp [ht]) (nq + 1))
  have je : word64 (fun j => if j / 64 = p / 64 then lay f p wd v j else f j) (p / 64) = word64 (lay f p wd v) (p / 64) := by
    apply Nat.eq_of_testBit_eq
    intro t
    rw [word64_testBit, word64_testBit]
    by_cases ht : t < 64
    · have : (64 * (p / 64) + t) / 64 = p / 64 := by omega
      simp [ht, this]
    · simp [ht]
  rw [je] at jP
  have jw (j : Nat) (hj : j ≠ p / 64 + 1) : word64 (lay f p wd v) j = word64 (fun j => if j / 64 = p / 64 then lay f p wd v j else f j) j := by
    by_cases e : j = p / 64
    · rw [e, je]
    · rw [H3.out j e hj]
      apply Nat.eq_of_testBit_eq
      intro t
      rw [word64_testBit, word64_testBit]
      by_cases ht : t < 64
      · have : ¬ ((64 * j + t) / 64 = p / 64) := by omega
        simp [ht, this]
      · simp [ht]
  have JW := Lib.hid jw
  have jf : ((w.drewN (nq + 1)).setCell ⟨bw, p / 64, none⟩ (.int .u64 (word64 (lay f p wd v) (p / 64)))).frozen? ⟨bw, p / 64 + 1, none⟩ = false := by rw [World.frozen?_setCell]; exact fz2
  have jK : Keeps (· = bw) w ((w.drewN (nq + 1)).setCell ⟨bw, p / 64, none⟩ (.int .u64 (word64 (lay f p wd v) (p / 64)))) := ((Keeps.refl (· = bw) w).drewN (nq + 1)).setCell (a := ⟨bw, p / 64, none⟩) rfl _
  clear jw je k2 k3 fz2
  have jP' : IsPackAt ((w.drewN (nq + 1)).setCell ⟨bw, p / 64, none⟩ (.int .u64 (word64 (lay f p wd v) (p / 64)))) b bw wd n (fun j => if j / 64 = p / 64 then lay f p wd v j else f j) := jP.out
  clear jP
  generalize (w.drewN (nq + 1)).setCell ⟨bw, p / 64, none⟩ (.int .u64 (word64 (lay f p wd v) (p / 64))) = W1 at j2 j3 jP' jf jK ⊢
  have JP := Lib.hid jP'
  have JQ := Lib.hid (show IsPack W1 b wd n _ from ⟨bw, jP'⟩)
  clear jP'
  refine wp_region_mix (Cells2 ⟨b, 2, none⟩ ⟨bw, p / 64 + 1, none⟩ (.slice (some ⟨bw, 0, none⟩) L L) (.int .u64 (word64 f (p / 64 + 1)))) [true, true, true, true, true, true, true, true, true, true, true, true, true, true, true, false, true, true, false, false, true, true, true, true] [false, false, false, false, false, false, false, false, false, false, false, false, false, false, false, true, false, false, true, true, false, false, false, false, true] [false, false, false, false, false, false, false, false, false, false, false, false, false, false, false, false, false, false, false, false, false, false, false, false, false, true, true] (by kernel_rfl) (by kernel_rfl) ⟨j2, j3⟩ (fun _ _ d _ _ h => by cases d <;> exact h) ?_
  simp only [selM]
  have hne := meets_ne (S := Cells2 ⟨b, 2, none⟩ ⟨bw, p / 64 + 1, none⟩ (.slice (some ⟨bw, 0, none⟩) L L) (.int .u64 (word64 f (p / 64 + 1)))) (w := W1) ⟨j2, j3⟩
  have y0 := Cells2.e1 (a := ⟨b, 2, none⟩) (b := ⟨bw, p / 64 + 1, none⟩) (u := .slice (some ⟨bw, 0, none⟩) L L) (v := .int .u64 (word64 f (p / 64 + 1)))
  have y1 := Cells2.e2 (a := ⟨b, 2, none⟩) (b := ⟨bw, p / 64 + 1, none⟩) (u := .slice (some ⟨bw, 0, none⟩) L L) (v := .int .u64 (word64 f (p / 64 + 1)))
  repeat (go_big_quiet_step (fail))
  refine wpQuiet_nil ?_
  clear y0 y1 hne
  refine pre_cons ?_
  go_wp2_with (go_at_call 68; refine (HM2.out _ (JQ.out.drewN _)).mono ?_; rintro e w' ⟨rfl, rfl⟩)
  refine mid_normal ⟨⟨j2, j3⟩, pre_cons ?_⟩
  go_wp2
  refine mid_normal ⟨⟨j2, j3⟩, pre_cons ?_⟩
  go_wp2
  refine mid_normal ⟨⟨j2, j3⟩, pre_cons ?_⟩
  go_wp2
  refine mid_normal ⟨⟨j2, j3⟩, pre_nil ?_⟩
  go_wp2
  go_ret
  exact ⟨rfl, JP.out.set (p / 64 + 1) JW.out 1, (jK.setCell (a := ⟨bw, p / 64 + 1, none⟩) rfl _).drewN 1⟩

theorem packSet (b bw wd n i v : Nat) (f : Nat → Bool) (w : World) (h : IsPackAt w b bw wd n f) (hi : i < n) (hv : v < 2 ^ wd) :
    Calls Try.prog 61 #[.pointer (some ⟨b, 0, none⟩), .int .i64 i, .int .u64 v] w fun e w' => e = .returned (.int .i64 0) ∧ IsPackAt w' b bw wd n (lay f (i * wd) wd v) ∧ Keeps (· = bw) w w' := by
  by_cases hs : i * wd % 64 + wd ≤ 64
  · exact packSetLow b bw wd n i v f w h hi hv hs
  · exact packSetHigh b bw wd n i v f w h hi hv (by omega)
end Go.Proofs.Ythgnapngjmgkcaa
