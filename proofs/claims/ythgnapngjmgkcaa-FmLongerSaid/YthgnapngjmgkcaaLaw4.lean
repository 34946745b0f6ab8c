import Derived.Test.YthgnapngjmgkcaaLaw2
/- Package haystacklaw7: heavyRows as a function, Extract of a whole text. -/
namespace Go.Proofs.Ythgnapngjmgkcaa
open Go.RowKit Go.Shelf

def heavyGo : List (List UInt8) → Nat → Bool
  | [], _ => false
  | t :: r, s => if 800 < t.length then true else if 800 < s + 3 + t.length then true else heavyGo r (s + 3 + t.length)
theorem heavyGo_le : ∀ (l : List (List UInt8)) (s : Nat), heavyGo l s = false → ∀ t ∈ l, t.length ≤ 800
  | [], _, _, t, ht => by cases ht
  | u :: r, s, h, t, ht => by
    unfold heavyGo at h
    split at h
    · cases h
    · split at h
      · cases h
      · rcases List.mem_cons.1 ht with rfl | q
        · omega
        · exact heavyGo_le r _ h t q

theorem lawHeavyB (w : World) (v : Value) (l : List (List UInt8)) (hv : Texts w v l) :
    Calls Try.prog 11 #[v] w fun e w' => e = .returned (.bool (heavyGo l 0)) ∧ ∃ m, w' = w.drewN m := by
  obtain ⟨vs, hvs, hvl, hvt⟩ := hv
  obtain ⟨ao, cap, rfl, hlc, hcm⟩ := hvs.form
  obtain ⟨n, hn⟩ : ∃ n, l.length = n := ⟨_, rfl⟩
  rw [hvl, hn] at hlc hvs ⊢
  have HVS := Lib.hid (fun i x (hx : vs[i]? = some x) => hvs.at_ i x hx)
  have HVT := Lib.hid hvt
  have HVL := Lib.hid hvl
  have HN := Lib.hid hn
  obtain ⟨h, hh⟩ : ∃ h, heavyGo l 0 = h := ⟨_, rfl⟩
  have HH := Lib.hid hh
  rw [hh]
  clear hvs hvt hvl hn hh
  go_enter Try.func11, Try.ntmps11
  go_wp2
  go_loopw [3, 4] (fun ts tk wr => ∃ (k s : Nat), k ≤ n ∧ tk = .int .i64 k ∧ ts = .int .i64 s ∧ s ≤ 800 ∧ Hid (heavyGo (l.drop k) s = h) ∧ ∃ m, wr = w.drewN m) (fun _ tk _ => n - (intOf tk).toNat)
  case atStart => exact ⟨0, 0, Nat.zero_le _, rfl, rfl, Nat.zero_le _, Lib.hid (by simpa using HH.out), 0, rfl⟩
  case round =>
    obtain ⟨k, s, hk, rfl, rfl, hs, hall, mm, rfl⟩ := hrel
    by_cases hlt : k < n
    · have hkl : k < l.length := by rw [HN.out]; exact hlt
      have hkv : k < vs.length := by rw [HVL.out]; exact hkl
      obtain ⟨x, hx⟩ : ∃ x, vs[k]? = some x := ⟨_, List.getElem?_eq_getElem hkv⟩
      obtain ⟨b, off, rfl, cx⟩ := HVS.out k x hx
      have hsx := HVT.out k l[k] x (List.getElem?_eq_getElem hkl) hx
      obtain ⟨ao2, cap2, rfl, hlc2, hcm2⟩ := hsx.form
      rw [bytes_length] at cx hlc2
      have hgo := hall.out
      rw [List.drop_eq_getElem_cons hkl, heavyGo] at hgo
      obtain ⟨c, hc⟩ : ∃ c, l[k].length = c := ⟨_, rfl⟩
      rw [hc] at cx hlc2 hgo
      clear hsx hc hx hall
      by_cases h1 : 800 < c
      · have d1 : decide ((800 : Int) < (c : Int)) = true := decide_eq_true (by omega)
        rw [if_pos h1] at hgo
        subst hgo
        go_wp2
        go_ret
        exact ⟨rfl, _, rfl⟩
      · have d1 : decide ((800 : Int) < (c : Int)) = false := decide_eq_false (by omega)
        rw [if_neg h1] at hgo
        by_cases h2 : 800 < s + 3 + c
        · have d2 : decide ((800 : Int) < (s : Int) + 3 + (c : Int)) = true := decide_eq_true (by omega)
          rw [if_pos h2] at hgo
          subst hgo
          go_wp2
          go_ret
          exact ⟨rfl, _, rfl⟩
        · have d2 : decide ((800 : Int) < (s : Int) + 3 + (c : Int)) = false := decide_eq_false (by omega)
          rw [if_neg h2] at hgo
          have HGO := Lib.hid hgo
          clear hgo
          go_wp2
          go_roundw
          case rel => exact ⟨k + 1, s + 3 + c, by omega, by go_num, by go_num, by omega, HGO, mm, rfl⟩
          case measure => simp [intOf]; omega
    · obtain rfl : k = n := by omega
      have hgo := hall.out
      rw [← HN.out, List.drop_length, heavyGo] at hgo
      subst hgo
      clear hall
      go_wp2
      go_ret
      exact ⟨rfl, mm, rfl⟩

theorem extractAll (b : Nat) (l : List (List UInt8)) (sa : List Nat) (w : World) (d : Nat) (h : IsIdx w b (rowOf l) sa (stL l)) (hd : d < l.length) :
    Calls Try.prog 16 #[.pointer (some ⟨b, 0, none⟩), .int .i64 d, .int .i64 0, .int .i64 (((l.getD d []).length : Int) + 5)] w (ExtOk w (l.getD d [])) := by
  by_cases h0 : 0 < (l.getD d []).length
  · have e := idxExtract b l sa w d 0 (((l.getD d []).length : Int) + 5) h hd h0 (by omega)
    rw [List.drop_zero, List.take_of_length_le (by omega)] at e
    exact e
  · refine (idxExtractNo b l sa w d 0 _ h (.inr (.inr (by rw [lenOf, if_pos (by omega), Int.toNat_natCast]; omega)))).mono ?_
    rintro e w' ⟨rfl, m, rfl⟩
    have : l.getD d [] = [] := List.eq_nil_of_length_eq_zero (by omega)
    rw [this]
    exact ⟨_, rfl, Sl.nil _, below_drewN (Below.refl _ _) _⟩
end Go.Proofs.Ythgnapngjmgkcaa
