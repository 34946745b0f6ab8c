import Derived.Test.YthgnapngjmgkcaaBits1
import Derived.Test.YthgnapngjmgkcaaWaveM
/- Package wavelet: what a Tree is in memory; level.to, Len, Width, Get, Rank. -/
namespace Go.Proofs.Ythgnapngjmgkcaa
open Go.RowKit

/-- where a place goes on the next level -/
def toZ (f : Nat → Bool) (z : Nat) (c : Bool) (i : Int) : Int := if c then z + rankZ f true i else rankZ f false i

theorem levelTo (b n z : Nat) (f : Nat → Bool) (c : Bool) (i : Int) (w : World) (h : IsVec w b n f) (h0 : 0 ≤ i) (hi : i ≤ n) (hz : z ≤ 1048576) :
    Calls Try.prog 49 #[.agg #[.pointer (some ⟨b, 0, none⟩), .int .i64 z], .bool c, .int .i64 i] w fun e w' => e = .returned (.int .i64 (toZ f z c i)) ∧ Below w.heap.size w w' := by
  have hB : ∀ o, Below w.heap.size w (w.alloc o) := fun o => (Below.refl _ _).alloc (Nat.le_refl _) _
  have hv := fun o => h.below (hB o)
  have hn : n ≤ 1048576 := by obtain ⟨_, _, _, _, _, _, _, h, _⟩ := h; exact h
  have hr : 0 ≤ rankZ f true i ∧ rankZ f true i ≤ i := by
    have := cnt_le f i.toNat
    unfold rankZ
    simp only [if_true]
    omega
  have HB := Lib.hid hB
  have HV := Lib.hid hv
  clear hv h hB
  cases c
  · have e : toZ f z false i = rankZ f false i := rfl
    have E := Lib.hid e
    clear e
    go_enter Try.func49, Try.ntmps49
    go_wp2_with (go_at_call 43; refine (vecRank b n f false i _ (HV.out _) h0 hi).mono ?_; rintro e w' ⟨rfl, m, rfl⟩)
    go_ret
    exact ⟨ret_int E.out.symm, below_drewN (HB.out _) _⟩
  · have e : toZ f z true i = z + rankZ f true i := rfl
    have E := Lib.hid e
    clear e
    go_enter Try.func49, Try.ntmps49
    go_wp2
    go_quiet ((go_at_call 43; exact Calls.quiet_of (vecRank b n f true i _ (HV.out _) h0 hi)))
    go_wp2
    go_ret
    exact ⟨ret_int E.out.symm, below_drewN (HB.out _) _⟩

/-- block b holds a Tree of width wd of the symbols s -/
def IsTree (w : World) (b wd : Nat) (s : List Nat) : Prop :=
  ∃ (bl ol cap : Nat) (bv : Nat → Nat), w.cell? ⟨b, 0, none⟩ = some (.int .i64 s.length) ∧ w.cell? ⟨b, 1, none⟩ = some (.slice (some ⟨bl, ol, none⟩) wd cap) ∧
    (∀ k, k < wd → w.cell? ⟨bl, ol + k * 2, none⟩ = some (.pointer (some ⟨bv k, 0, none⟩)) ∧ w.cell? ⟨bl, ol + k * 2 + 1, none⟩ = some (.int .i64 (lvZeros wd s k)) ∧ IsVec w (bv k) s.length (lvBits wd s k)) ∧
    1 ≤ wd ∧ wd ≤ 16 ∧ s.length ≤ 131072 ∧ ∀ x ∈ s, x < 2 ^ wd
theorem IsTree.below {w w' : World} {b wd : Nat} {s : List Nat} (h : IsTree w b wd s) (hb : Below w.heap.size w w') : IsTree w' b wd s := by
  obtain ⟨bl, ol, cap, bv, h0, h1, h2, h3⟩ := h
  exact ⟨bl, ol, cap, bv, cell_below hb h0, cell_below hb h1, fun k hk => ⟨cell_below hb (h2 k hk).1, cell_below hb (h2 k hk).2.1, (h2 k hk).2.2.below hb⟩, h3⟩

theorem treeLen (b wd : Nat) (s : List Nat) (w : World) (h : IsTree w b wd s) :
    Calls Try.prog 28 #[.pointer (some ⟨b, 0, none⟩)] w fun e w' => e = .returned (.int .i64 s.length) ∧ w = w' := by
  obtain ⟨bl, ol, cap, bv, h0, h1, h2, h3⟩ := h
  clear h2
  go_enter Try.func28, Try.ntmps28
  go_wp2
  go_ret
  exact ⟨rfl, rfl⟩
theorem treeWidth (b wd : Nat) (s : List Nat) (w : World) (h : IsTree w b wd s) :
    Calls Try.prog 84 #[.pointer (some ⟨b, 0, none⟩)] w fun e w' => e = .returned (.int .i64 wd) ∧ w = w' := by
  obtain ⟨bl, ol, cap, bv, h0, h1, h2, h3⟩ := h
  clear h2
  go_enter Try.func84, Try.ntmps84
  go_wp2
  go_ret
  exact ⟨rfl, rfl⟩
theorem pow_small (wd : Nat) (h : wd ≤ 16) : 2 ^ wd ≤ 65536 := Nat.le_trans (Nat.pow_le_pow_right (by decide) h) (by decide)
theorem treeIsSym (b wd c : Nat) (s : List Nat) (w : World) (h : IsTree w b wd s) (hc : c < 2 ^ wd) :
    Calls Try.prog 63 #[.pointer (some ⟨b, 0, none⟩), .int .i64 c] w fun e w' => e = .returned (.bool true) ∧ w = w' := by
  have hw : wd ≤ 16 := by obtain ⟨_, _, _, _, _, _, _, _, h, _⟩ := h; exact h
  have hp := pow_small wd hw
  have e : wrap64 (2 ^ wd) = ((2 ^ wd : Nat) : Int) := by
    rw [show (2 : Int) ^ wd = ((2 ^ wd : Nat) : Int) by simp]
    unfold wrap64; omega
  have hc' : (c : Int) < ((2 ^ wd : Nat) : Int) := by omega
  have E := Lib.hid (show decide ((c : Int) < wrap64 (2 ^ wd)) = true by rw [e]; exact decide_eq_true hc')
  clear e hc'
  go_enter Try.func63, Try.ntmps63
  go_wp2_with (go_at_call 84; refine (treeWidth b wd s _ h).mono ?_; rintro e w' ⟨rfl, rfl⟩)
  go_ret
  refine ⟨ret_bool ?_, rfl⟩
  exact E.out
theorem treeWithin (b wd : Nat) (i : Int) (s : List Nat) (w : World) (h : IsTree w b wd s) (h0 : 0 ≤ i) (hi : i ≤ s.length) :
    Calls Try.prog 64 #[.pointer (some ⟨b, 0, none⟩), .int .i64 i] w fun e w' => e = .returned (.int .i64 i) ∧ w = w' := by
  obtain ⟨k, rfl⟩ := Int.eq_ofNat_of_zero_le h0
  have hmin : (if k < s.length then (k : Int) else (s.length : Int)) = k := by split <;> omega
  go_enter Try.func64, Try.ntmps64
  go_wp2_with (go_at_call 28; refine (treeLen b wd s _ h).mono ?_; rintro e w' ⟨rfl, rfl⟩)
  all_goals
    go_ret
    exact ⟨ret_int (by omega), rfl⟩
theorem treeBit (b wd c k : Nat) (s : List Nat) (w : World) (h : IsTree w b wd s) (hk : k < wd) (hc : c < 2 ^ wd) :
    Calls Try.prog 65 #[.pointer (some ⟨b, 0, none⟩), .int .i64 c, .int .i64 k] w fun e w' => e = .returned (.bool (bitN wd k c)) ∧ w = w' := by
  obtain ⟨bl, ol, cap, bv, h0, h1, h2, _, hw, _⟩ := h
  clear h2
  have hp := pow_small wd hw
  have E := Lib.hid (show (bits .and .i64 ((c : Int) / 2 ^ (wd - 1 - k)) 1 == 1) = bitN wd k c from bit_one c _ (by omega))
  go_enter Try.func65, Try.ntmps65
  go_wp2
  go_ret
  refine ⟨ret_bool ?_, rfl⟩
  exact E.out

theorem toZ_toN (wd k : Nat) (s : List Nat) (c : Bool) (i : Nat) : toZ (lvBits wd s k) (lvZeros wd s k) c i = (toN (bitN wd k) (rowAt wd s k) c i : Nat) := by
  have := cnt_le (lvBits wd s k) i
  unfold toZ toN rankZ
  cases c
  · simp only [Bool.false_eq_true, if_false, Int.toNat_natCast]; unfold lvBits; unfold lvBits at this; omega
  · simp only [if_true, Int.toNat_natCast]; unfold lvBits lvZeros; omega

theorem getSpot (b wd k a x : Nat) (c : Bool) (s : List Nat) (w : World) (h : IsVec w b s.length (lvBits wd s k)) (hs : Spot wd s x k a) (hc : bitN wd k x = c) :
    Calls Try.prog 41 #[.pointer (some ⟨b, 0, none⟩), .int .i64 a] w fun e w' => e = .returned (.bool c) ∧ ∃ m, w' = w.drewN m := by
  have := vecGet b s.length (lvBits wd s k) a w h (by omega) (by have := hs.lt; omega)
  rw [Int.toNat_natCast, hs.bit, hc] at this
  exact this
theorem toLevel (b wd k a : Nat) (c : Bool) (s : List Nat) (w : World) (h : IsVec w b s.length (lvBits wd s k)) (ha : a ≤ s.length) (hl : s.length ≤ 131072) :
    Calls Try.prog 49 #[.agg #[.pointer (some ⟨b, 0, none⟩), .int .i64 (lvZeros wd s k)], .bool c, .int .i64 a] w fun e w' => e = .returned (.int .i64 (toN (bitN wd k) (rowAt wd s k) c a : Nat)) ∧ Below w.heap.size w w' := by
  have := lvZeros_le wd s k
  have h := levelTo b s.length (lvZeros wd s k) (lvBits wd s k) c a w h (by omega) (by omega) (by omega)
  rw [toZ_toN] at h
  exact h

set_option maxHeartbeats 1000000 in
theorem treeGet (b wd x : Nat) (i : Int) (s : List Nat) (w : World) (h : IsTree w b wd s) (h0 : 0 ≤ i) (hx : s[i.toNat]? = some x) :
    Calls Try.prog 29 #[.pointer (some ⟨b, 0, none⟩), .int .i64 i] w fun e w' => e = .returned (.int .i64 x) ∧ Below w.heap.size w w' := by
  obtain ⟨i, rfl⟩ := Int.eq_ofNat_of_zero_le h0
  rw [Int.toNat_natCast] at hx
  have ht := h
  obtain ⟨bl, ol, cap, bv, h1, h2, h3, hw1, hw, hlen, hs⟩ := h
  have hi : i < s.length := (List.getElem?_eq_some_iff.1 hx).1
  have hx2 : x < 2 ^ wd := hs x (List.mem_of_getElem? hx)
  have hp := pow_small wd hw
  have H3 := Lib.hid h3
  have HX := Lib.hid hx
  have HT := Lib.hid ht
  have HS := Lib.hid hs
  clear h3 hx ht hs
  have hd1 : decide ((i : Int) < 0) = false := by simp
  have hd2 : decide (s.length ≤ i) = false := by simp; omega
  go_enter Try.func29, Try.ntmps29
  go_wp2_with (go_at_call 28; refine (treeLen b wd s _ HT.out).mono ?_; rintro e w' ⟨rfl, rfl⟩)
  go_loopw [1, 5, 22] (fun ti tc tk wr => ∃ k a : Nat, k ≤ wd ∧ tk = .int .i64 k ∧ ti = .int .i64 a ∧ tc = .int .i64 (x / 2 ^ (wd - k) : Nat) ∧ Hid (Spot wd s x k a) ∧ Below w.heap.size w wr)
    (fun _ _ tk _ => wd - (intOf tk).toNat)
  case atStart => exact ⟨0, i, Nat.zero_le _, rfl, rfl, by rw [Nat.sub_zero, Nat.div_eq_of_lt hx2]; rfl, Spot.start wd s x i HX.out, Below.refl _ _⟩
  case round =>
    obtain ⟨k, a, hk, rfl, rfl, rfl, hspot, hB⟩ := hrel
    have hal := hspot.out.lt
    have h2' := cell_below hB h2
    by_cases hlt : k < wd
    · obtain ⟨g1, g2, g3⟩ := H3.out k hlt
      have c1 := cell_below hB g1
      have c2 := cell_below hB g2
      have hq : x / 2 ^ (wd - k) ≤ 65536 := Nat.le_trans (Nat.div_le_self _ _) (by omega)
      have HV := Lib.hid (fun o => (g3.below hB).below ((Below.refl wr.heap.size wr).alloc (Nat.le_refl _) o))
      have HD := Lib.hid (digit_step wd k x hlt)
      clear g1 g2 g3
      generalize x / 2 ^ (wd - k) = q at hq HD ⊢
      cases hb : bitN wd k x
      all_goals
        have HC := Lib.hid hb
        clear hb
        go_wp2_with (first | (go_at_call 41; refine (getSpot (bv k) wd k a x _ s _ (HV.out _) hspot.out HC.out).mono ?_; rintro e w' ⟨rfl, m, rfl⟩) | (go_at_call 49; refine (toLevel (bv k) wd k a _ s _ ((HV.out _).drewN _) (by omega) hlen).mono ?_; rintro e w1 ⟨rfl, hb1⟩))
        go_roundw
        case rel =>
          refine ⟨k + 1, _, by omega, by go_num, rfl, ?_, ?_, ?_⟩
          · rw [HD.out, HC.out]
            first
              | (rw [show ((q : Int) * 2) = ((2 * q : Nat) : Int) by omega, or_one q (by omega)]; rfl)
              | (refine congrArg (Value.int .i64) ?_; simp; omega)
          · have := hspot.out.step
            rw [HC.out] at this
            exact this
          · exact below_up (below_drewN (hB.alloc hB.size _) _) hb1 (by have := hB.size; simp; omega)
        case measure => simp [intOf]; omega
    · obtain rfl : k = wd := by omega
      go_wp2
      go_ret
      exact ⟨ret_int (by rw [Nat.sub_self, Nat.pow_zero, Nat.div_one]), hB⟩

set_option maxHeartbeats 1000000 in
theorem treeRank (b wd c : Nat) (i : Int) (s : List Nat) (w : World) (h : IsTree w b wd s) (h0 : 0 ≤ i) (hi : i ≤ s.length) (hc : c < 2 ^ wd) :
    Calls Try.prog 40 #[.pointer (some ⟨b, 0, none⟩), .int .i64 c, .int .i64 i] w fun e w' => e = .returned (.int .i64 ((s.take i.toNat).count c : Nat)) ∧ Below w.heap.size w w' := by
  obtain ⟨i, rfl⟩ := Int.eq_ofNat_of_zero_le h0
  rw [Int.toNat_natCast]
  have ht := h
  obtain ⟨bl, ol, cap, bv, h1, h2, h3, hw1, hw, hlen, hs⟩ := h
  have H3 := Lib.hid h3
  have HT := Lib.hid ht
  have HS := Lib.hid hs
  have HC := Lib.hid hc
  clear h3 ht hs hc
  go_enter Try.func40, Try.ntmps40
  go_wp2_with (first | (go_at_call 63; refine (treeIsSym b wd c s _ HT.out HC.out).mono ?_; rintro e w' ⟨rfl, rfl⟩) | (go_at_call 64; refine (treeWithin b wd _ s _ HT.out (by omega) hi).mono ?_; rintro e w' ⟨rfl, rfl⟩))
  go_loopw [7, 8, 24] (fun tf tt tk wr => ∃ k fr to : Nat, k ≤ wd ∧ tk = .int .i64 k ∧ tf = .int .i64 fr ∧ tt = .int .i64 to ∧ Hid (Piece wd c s i k fr to) ∧ Below w.heap.size w wr)
    (fun _ _ tk _ => wd - (intOf tk).toNat)
  case atStart => exact ⟨0, 0, i, Nat.zero_le _, rfl, rfl, rfl, Piece.start wd c s i (by omega), Below.refl _ _⟩
  case round =>
    obtain ⟨k, fr, to, hk, rfl, rfl, rfl, hp, hB⟩ := hrel
    obtain ⟨hf, ht⟩ := hp.out.le
    have h2' := cell_below hB h2
    by_cases hlt : k < wd
    · obtain ⟨g1, g2, g3⟩ := H3.out k hlt
      have c1 := cell_below hB g1
      have c2 := cell_below hB g2
      have HV := Lib.hid (fun o => (g3.below hB).below ((Below.refl wr.heap.size wr).alloc (Nat.le_refl _) o))
      have HT' := Lib.hid (fun o => (HT.out.below hB).below ((Below.refl wr.heap.size wr).alloc (Nat.le_refl _) o))
      clear g1 g2 g3
      go_wp2_with (go_at_call 65; refine (treeBit b wd c k s _ (HT'.out _) hlt HC.out).mono ?_; rintro e w' ⟨rfl, rfl⟩)
      have x1 := fun o => Later.cell (w := wr.alloc (.cells #[.pointer (some ⟨bv k, 0, none⟩), .int .i64 (lvZeros wd s k)] 83)) (b := wr.heap.size) (o := 0) (v := .pointer (some ⟨bv k, 0, none⟩)) o
      have x1 := x1 (by simp)
      have x2 := Later.cell (w := wr.alloc (.cells #[.pointer (some ⟨bv k, 0, none⟩), .int .i64 (lvZeros wd s k)] 83)) (b := wr.heap.size) (o := 1) (v := .int .i64 (lvZeros wd s k)) (by simp)
      refine wp_region_later (by kernel_rfl) (by kernel_rfl) ?_
      repeat (go_big_quiet_step ((go_at_call 49; exact later_call (toLevel (bv k) wd k _ _ s _ ((HV.out _).below (Subtype.property _)) (by omega) hlen))))
      refine wpQuiet_nil ?_
      rintro _ ⟨⟨w1, hb1⟩, rfl⟩
      clear x1 x2
      go_wp2
      go_roundw
      case rel => exact ⟨k + 1, _, _, by omega, by go_num, rfl, rfl, hp.out.step, below_up (hB.alloc hB.size _) hb1 (by have := hB.size; simp; omega)⟩
      case measure => simp [intOf]; omega
    · obtain rfl : k = wd := by omega
      have E := Lib.hid (hp.out.done HC.out HS.out)
      go_wp2
      go_ret
      exact ⟨ret_int (by rw [← E.out]; omega), hB⟩
end Go.Proofs.Ythgnapngjmgkcaa
