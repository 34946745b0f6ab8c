import Derived.Test.YthgnapngjmgkcaaFm8
/- Package haystacklaw7: hits, same, heavyRows, known. -/
namespace Go.Proofs.Ythgnapngjmgkcaa
open Go.RowKit Go.Shelf

theorem idxCountOf (b : Nat) (l : List (List UInt8)) (sa : List Nat) (w : World) (v : Value) (p : List UInt8) (h : IsIdx w b (rowOf l) sa (stL l)) (h0 : 0 < p.length) (hp : p.length ≤ 1048576) (hv : Sl w v (bytes p)) :
    Calls Try.prog 12 #[.pointer (some ⟨b, 0, none⟩), v] w fun e w' => e = .returned (.int .i64 ((hitsOf l p).length : Nat)) ∧ Below w.heap.size w w' := by
  have h1 := h.1
  refine (idxCount b _ sa _ w v p h h0 hp hv).mono ?_
  rintro e w' ⟨fr, tt, rfl, hi, hle, hB⟩
  have := (spots_perm h1 (by intro e; rw [e] at h0; simp at h0) hi).length_eq
  rw [List.length_map, List.length_range] at this
  exact ⟨by rw [this], hB⟩

theorem lawHits (w : World) (va vb : Value) (l : List (Nat × Nat)) (hl : l.length ≤ 1048576) (ha : HitSl w va l) (hb : HitSl w vb l) :
    Calls Try.prog 19 #[va, vb] w fun e w' => e = .returned (.bool true) ∧ ∃ m, w' = w.drewN m := by
  obtain ⟨aa, ca, rfl, hla, hma, hca⟩ := ha
  obtain ⟨ab, cb, rfl, hlb, hmb, hcb⟩ := hb
  obtain ⟨n, hn⟩ : ∃ n, l.length = n := ⟨_, rfl⟩
  rw [hn] at hla hlb hl ⊢
  have HA := Lib.hid hca
  have HB := Lib.hid hcb
  have HN := Lib.hid hn
  clear hca hcb hn
  go_enter Try.func19, Try.ntmps19
  go_wp2
  go_loopw [5] (fun tk wr => ∃ k : Nat, k ≤ n ∧ tk = .int .i64 k ∧ ∃ m, wr = w.drewN m) (fun tk _ => n - (intOf tk).toNat)
  case atStart => exact ⟨0, Nat.zero_le _, rfl, 0, rfl⟩
  case round =>
    obtain ⟨k, hk, rfl, mm, rfl⟩ := hrel
    by_cases hlt : k < n
    · have hkl : k < l.length := by rw [HN.out]; exact hlt
      have hne : l ≠ [] := by intro e; rw [e] at hkl; simp at hkl
      obtain ⟨b1, o1, rfl, q1⟩ := HA.out hne
      obtain ⟨b2, o2, rfl, q2⟩ := HB.out hne
      obtain ⟨x1, x2⟩ := q1 k _ (List.getElem?_eq_getElem hkl)
      obtain ⟨y1, y2⟩ := q2 k _ (List.getElem?_eq_getElem hkl)
      generalize l[k] = h at x1 x2 y1 y2
      clear q1 q2 hne
      go_wp2
      go_quiet (fail)
      go_wp2
      go_roundw
      case rel => exact ⟨k + 1, by omega, by go_num, _, rfl⟩
      case measure => simp [intOf]; omega
    · obtain rfl : k = n := by omega
      go_wp2
      go_ret
      exact ⟨rfl, mm, rfl⟩

theorem lawSame (w : World) (va vb : Value) (l : List UInt8) (hl : l.length ≤ 1048576) (ha : Sl w va (bytes l)) (hb : Sl w vb (bytes l)) :
    Calls Try.prog 15 #[va, vb] w fun e w' => e = .returned (.bool true) ∧ ∃ m, w' = w.drewN m := by
  obtain ⟨aa, ca, rfl, hla, hma⟩ := ha.form
  obtain ⟨ab, cb, rfl, hlb, hmb⟩ := hb.form
  have HA := Lib.hid (fun i x (hx : (bytes l)[i]? = some x) => ha.at_ i x hx)
  have HB := Lib.hid (fun i x (hx : (bytes l)[i]? = some x) => hb.at_ i x hx)
  rw [bytes_length] at hla hlb ⊢
  obtain ⟨n, hn⟩ : ∃ n, l.length = n := ⟨_, rfl⟩
  rw [hn] at hla hlb hl ⊢
  have HN := Lib.hid hn
  clear hn ha hb
  go_enter Try.func15, Try.ntmps15
  go_wp2
  go_loopw [5] (fun tk wr => ∃ k : Nat, k ≤ n ∧ tk = .int .i64 k ∧ ∃ m, wr = w.drewN m) (fun tk _ => n - (intOf tk).toNat)
  case atStart => exact ⟨0, Nat.zero_le _, rfl, 0, rfl⟩
  case round =>
    obtain ⟨k, hk, rfl, mm, rfl⟩ := hrel
    by_cases hlt : k < n
    · have hkl : k < l.length := by rw [HN.out]; exact hlt
      obtain ⟨b1, o1, rfl, x1⟩ := HA.out k _ (bytes_get l k hkl)
      obtain ⟨b2, o2, rfl, y1⟩ := HB.out k _ (bytes_get l k hkl)
      generalize l[k] = h at x1 y1
      go_wp2
      go_quiet (fail)
      go_wp2
      go_roundw
      case rel => exact ⟨k + 1, by omega, by go_num, _, rfl⟩
      case measure => simp [intOf]; omega
    · obtain rfl : k = n := by omega
      go_wp2
      go_ret
      exact ⟨rfl, mm, rfl⟩
end Go.Proofs.Ythgnapngjmgkcaa
