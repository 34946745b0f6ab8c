import Derived.Test.YthgnapngjmgkcaaFm4
/- Package fm: Len of any number, Extract of nothing. -/
namespace Go.Proofs.Ythgnapngjmgkcaa
open Go.RowKit Go.Shelf

theorem idxLenNo (b : Nat) (s sa st : List Nat) (w : World) (d : Int) (h : IsIdx w b s sa st) (hst : 0 < st.length) (hl : st.length ≤ 65537) (hd : d < 0 ∨ (st.length : Int) - 1 ≤ d) :
    Calls Try.prog 14 #[.pointer (some ⟨b, 0, none⟩), .int .i64 d] w fun e w' => e = .returned (.int .i64 0) ∧ w = w' := by
  have hdocs := idxDocs b s sa st w h hst
  obtain ⟨k, hk⟩ : ∃ k, st.length - 1 = k := ⟨_, rfl⟩
  rw [hk] at hdocs
  have HD := Lib.hid hdocs
  have hk2 : d < 0 ∨ (k : Int) ≤ d := by omega
  clear hdocs h hk hd
  by_cases h0 : d < 0
  · have d1 : decide (d < 0) = true := decide_eq_true h0
    clear hk2
    go_enter Try.func14, Try.ntmps14
    go_wp2
    go_ret
    exact ⟨rfl, rfl⟩
  · have d1 : decide (d < 0) = false := decide_eq_false h0
    have d2 : decide ((k : Int) ≤ d) = true := decide_eq_true (by omega)
    clear hk2
    go_enter Try.func14, Try.ntmps14
    go_wp2_with (go_at_call 17; refine HD.out.mono ?_; rintro e w' ⟨rfl, rfl⟩)
    go_ret
    exact ⟨rfl, rfl⟩
theorem idxLenNil (w : World) (d : Int) :
    Calls Try.prog 14 #[.pointer none, .int .i64 d] w fun e w' => e = .returned (.int .i64 0) ∧ w = w' := by
  have HD := Lib.hid (idxDocsNil w)
  by_cases h0 : d < 0
  · have d1 : decide (d < 0) = true := decide_eq_true h0
    go_enter Try.func14, Try.ntmps14
    go_wp2
    go_ret
    exact ⟨rfl, rfl⟩
  · have d1 : decide (d < 0) = false := decide_eq_false h0
    have d2 : decide (0 ≤ d) = true := decide_eq_true (by omega)
    go_enter Try.func14, Try.ntmps14
    go_wp2_with (go_at_call 17; refine HD.out.mono ?_; rintro e w' ⟨rfl, rfl⟩)
    go_ret
    exact ⟨rfl, rfl⟩
/-- how many bytes a text has; 0 of none -/
def lenOf (l : List (List UInt8)) (d : Int) : Nat := if 0 ≤ d ∧ d < l.length then (l.getD d.toNat []).length else 0
theorem row_small {w : World} {b : Nat} {l : List (List UInt8)} {sa : List Nat} (h : IsIdx w b (rowOf l) sa (stL l)) : stOf l l.length ≤ 65535 ∧ l.length ≤ 65535 := by
  have h1 := h.2.2.1
  have h2 := rowOf_length l
  have h3 := stOf_mono l (Nat.zero_le l.length) (Nat.le_refl _)
  simp at h3
  omega
theorem idxLenOf (b : Nat) (l : List (List UInt8)) (sa : List Nat) (w : World) (d : Int) (h : IsIdx w b (rowOf l) sa (stL l)) :
    Calls Try.prog 14 #[.pointer (some ⟨b, 0, none⟩), .int .i64 d] w fun e w' => e = .returned (.int .i64 (lenOf l d)) ∧ ∃ m, w' = w.drewN m := by
  obtain ⟨hs1, hs2⟩ := row_small h
  by_cases hd : 0 ≤ d ∧ d < l.length
  · obtain ⟨k, rfl⟩ := Int.eq_ofNat_of_zero_le hd.1
    have hk : k < l.length := by omega
    have e := stOf_succ l k hk
    have hm := stOf_mono l (show k + 1 ≤ l.length by omega) (Nat.le_refl _)
    refine (idxLen b _ sa (stL l) w k h (by simp; omega) (by rw [stL_getD l k (by omega), stL_getD l (k + 1) (by omega)]; omega) (by rw [stL_getD l (k + 1) (by omega)]; omega) (by simp; omega)).mono ?_
    rintro e' w' ⟨rfl, hw⟩
    refine ⟨ret_int ?_, hw⟩
    rw [stL_getD l k (by omega), stL_getD l (k + 1) (by omega), e, lenOf, if_pos hd, Int.toNat_natCast]
    omega
  · refine (idxLenNo b _ sa (stL l) w d h (by simp) (by simp; omega) (by simp; omega)).mono ?_
    rintro e' w' ⟨rfl, hw⟩
    exact ⟨ret_int (by rw [lenOf, if_neg hd]; rfl), 0, hw.symm⟩

/-- nothing is there -/
theorem idxExtractNo (b : Nat) (l : List (List UInt8)) (sa : List Nat) (w : World) (d f n : Int) (h : IsIdx w b (rowOf l) sa (stL l)) (hno : f < 0 ∨ n ≤ 0 ∨ (lenOf l d : Int) ≤ f) :
    Calls Try.prog 16 #[.pointer (some ⟨b, 0, none⟩), .int .i64 d, .int .i64 f, .int .i64 n] w fun e w' => e = .returned (.slice none 0 0) ∧ ∃ m, w' = w.drewN m := by
  have hl := idxLenOf b l sa w d h
  generalize lenOf l d = k at hl hno
  have HL := Lib.hid hl
  clear hl h
  by_cases h1 : f < 0
  · have d1 : decide (f < 0) = true := decide_eq_true h1
    clear hno
    go_enter Try.func16, Try.ntmps16
    go_wp2_with (go_at_call 14; refine HL.out.mono ?_; rintro e w' ⟨rfl, m, rfl⟩)
    go_ret
    exact ⟨rfl, m, rfl⟩
  · have d1 : decide (f < 0) = false := decide_eq_false h1
    by_cases h2 : n ≤ 0
    · have d2 : decide (n ≤ 0) = true := decide_eq_true h2
      clear hno
      go_enter Try.func16, Try.ntmps16
      go_wp2_with (go_at_call 14; refine HL.out.mono ?_; rintro e w' ⟨rfl, m, rfl⟩)
      go_ret
      exact ⟨rfl, m, rfl⟩
    · have d2 : decide (n ≤ 0) = false := decide_eq_false h2
      have d3 : decide ((k : Int) ≤ f) = true := decide_eq_true (by omega)
      clear hno
      go_enter Try.func16, Try.ntmps16
      go_wp2_with (go_at_call 14; refine HL.out.mono ?_; rintro e w' ⟨rfl, m, rfl⟩)
      go_ret
      exact ⟨rfl, m, rfl⟩
theorem idxExtractNil (w : World) (d f n : Int) :
    Calls Try.prog 16 #[.pointer none, .int .i64 d, .int .i64 f, .int .i64 n] w fun e w' => e = .returned (.slice none 0 0) ∧ w = w' := by
  have HL := Lib.hid (idxLenNil w d)
  by_cases h1 : f < 0
  · have d1 : decide (f < 0) = true := decide_eq_true h1
    go_enter Try.func16, Try.ntmps16
    go_wp2_with (go_at_call 14; refine HL.out.mono ?_; rintro e w' ⟨rfl, rfl⟩)
    go_ret
    exact ⟨rfl, rfl⟩
  · have d1 : decide (f < 0) = false := decide_eq_false h1
    have d3 : decide (0 ≤ f) = true := decide_eq_true (by omega)
    by_cases h2 : n ≤ 0
    · have d2 : decide (n ≤ 0) = true := decide_eq_true h2
      go_enter Try.func16, Try.ntmps16
      go_wp2_with (go_at_call 14; refine HL.out.mono ?_; rintro e w' ⟨rfl, rfl⟩)
      go_ret
      exact ⟨rfl, rfl⟩
    · have d2 : decide (n ≤ 0) = false := decide_eq_false h2
      go_enter Try.func16, Try.ntmps16
      go_wp2_with (go_at_call 14; refine HL.out.mono ?_; rintro e w' ⟨rfl, rfl⟩)
      go_ret
      exact ⟨rfl, rfl⟩
end Go.Proofs.Ythgnapngjmgkcaa
