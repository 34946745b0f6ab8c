import Derived.Test.YthgnapngjmgkcaaLaw1
import Derived.Lib.SlBytesConst
/- Package haystacklaw7: heavyRows, known. -/
namespace Go.Proofs.Ythgnapngjmgkcaa
open Go.RowKit Go.Shelf

def kTexts : List (List UInt8) := [[98, 97, 110, 97, 110, 97], [97, 110]]
theorem kHits : hitsOf kTexts [97, 110] = [(0, 1), (0, 3), (1, 0)] := by decide
theorem kCount : (hitsOf kTexts [110, 97]).length = 2 := by decide
theorem kRow : (rowOf kTexts).length ≤ 65536 := by decide

/-- a fresh list of values -/
theorem alloc_sl (w : World) (cs : Array Value) (e : TypeId) (fr : Nat × Nat) (xs : List Value) (g n : Nat) (hg : g = w.heap.size) (hx : xs = cs.toList) (hn : n = xs.length) (hl : cs.size ≤ 9223372036854775807) : Sl (w.alloc (.cells cs e fr)) (.slice (some ⟨g, 0, none⟩) n n) xs := by
  subst hg hx hn
  refine Sl.mk_ (Nat.le_refl _) (by simpa using hl) fun i x h => ?_
  rw [Nat.zero_add, World.cell?_alloc_mark, ← h]
  simp
theorem below_alloc (w : World) (o : Obj) : Below w.heap.size w (w.alloc o) := (Below.refl _ _).alloc (Nat.le_refl _) o
theorem texts2 {w : World} {v x y : Value} {a b : List UInt8} (hv : Sl w v [x, y]) (hx : Sl w x (bytes a)) (hy : Sl w y (bytes b)) : Texts w v [a, b] := by
  refine ⟨_, hv, rfl, fun i t z h1 h2 => ?_⟩
  match i with
  | 0 => simp at h1 h2; subst h1 h2; exact hx
  | 1 => simp at h1 h2; subst h1 h2; exact hy
  | i + 2 => simp at h1
theorem hits_alloc (w : World) (g n : Nat) (cs : Array Value) (e : TypeId) (l : List (Nat × Nat)) (hg : g = w.heap.size) (hn : n = l.length) (hl : n ≤ 9223372036854775807) (hc : cs.toList = hitCells l) :
    HitSl (w.alloc (.cells cs e)) (.slice (some ⟨g, 0, none⟩) n n) l := by
  subst hg hn
  refine ⟨_, _, rfl, Nat.le_refl _, hl, fun _ => ⟨_, 0, rfl, fun i h hh => ?_⟩⟩
  obtain ⟨hi, rfl⟩ := List.getElem?_eq_some_iff.1 hh
  obtain ⟨a, b⟩ := hitCells_get l i hi
  rw [Nat.zero_add, World.cell?_alloc_new, World.cell?_alloc_new, ← Array.getElem?_toList, ← Array.getElem?_toList, hc]
  exact ⟨a, b⟩

theorem HeldIdx.at_ {lo : Nat} {w W : World} {b : Nat} {s sa st : List Nat} (h : HeldIdx lo w b s sa st) (hb : Below w.heap.size w W) : IsIdx W b s sa st :=
  h W hb.size (fun i _ h2 => hb.block i h2)
theorem HitSl.below {w w' : World} {v : Value} {l : List (Nat × Nat)} (h : HitSl w v l) (hb : Below w.heap.size w w') : HitSl w' v l := by
  obtain ⟨ao, cap, e, h1, h2, h3⟩ := h
  refine ⟨ao, cap, e, h1, h2, fun hn => ?_⟩
  obtain ⟨b, off, e2, h4⟩ := h3 hn
  exact ⟨b, off, e2, fun i x hx => ⟨cell_below hb (h4 i x hx).1, cell_below hb (h4 i x hx).2⟩⟩
theorem kTexts_at (w : World) (e1 e2 e3 : TypeId) (f1 f2 f3 : Nat × Nat) :
    Texts (((w.alloc (.cells #[.int .u8 98, .int .u8 97, .int .u8 110, .int .u8 97, .int .u8 110, .int .u8 97] e1 f1)).alloc (.cells #[.int .u8 97, .int .u8 110] e2 f2)).alloc (.cells #[.slice (some ⟨w.heap.size, 0, none⟩) 6 6, .slice (some ⟨w.heap.size + 1, 0, none⟩) 2 2] e3 f3)) (.slice (some ⟨w.heap.size + 1 + 1, 0, none⟩) 2 2) kTexts := by
  refine texts2 (x := .slice (some ⟨w.heap.size, 0, none⟩) 6 6) (y := .slice (some ⟨w.heap.size + 1, 0, none⟩) 2 2) (alloc_sl _ _ _ _ _ _ _ (by simp) rfl rfl (by simp)) ?_ ?_
  · exact (alloc_sl w #[.int .u8 98, .int .u8 97, .int .u8 110, .int .u8 97, .int .u8 110, .int .u8 97] e1 f1 (bytes [98, 97, 110, 97, 110, 97]) _ 6 rfl rfl rfl (by simp)).below ((below_alloc _ _).alloc (by simp) _)
  · exact (alloc_sl _ #[.int .u8 97, .int .u8 110] e2 f2 (bytes [97, 110]) (w.heap.size + 1) 2 (by simp) rfl rfl (by simp)).below (below_alloc _ _)

set_option maxRecDepth 100000 in
set_option maxHeartbeats 4000000 in
theorem lawKnown (w : World) : Calls Try.prog 9 #[] w fun e w' => e = .returned (.bool true) ∧ Below w.heap.size w w' := by
  have HB := Lib.hid (fun W v h => fmBuild W v kTexts (by decide) (by decide) h)
  have kc := fun (w : World) (C : Array Value) (n c : Nat) => Lib.run_convert_bytes_const (P := Try.prog) w 24 5 C n c Try.underlying24 Try.underlying5
  have kc2 := fun (w : World) (o : Obj) (C : Array Value) (n c : Nat) => (show (convert 24 24 (.slice (some ⟨w.heap.size + 1, 0, none⟩) n c)).run Try.prog ((w.alloc o).alloc (.cells C 5)) = .ok (.slice (some ⟨w.heap.size + 1, 0, none⟩) n c) ((w.alloc o).alloc (.cells C 5 (C.size, C.size + 1))) by simpa using kc (w.alloc o) C n c)
  go_enter Try.func9, Try.ntmps9
  go_wp2_with (first
    | (go_at_call 10
       refine (HB.out _ _ (kTexts_at w _ _ _ _ _ _)).mono ?_
       rintro e w1 hb
       rw [BuildOk, if_pos kRow] at hb
       obtain ⟨b, sa, rfl, hh, hB1⟩ := hb
       have hB0 := below_up (((below_alloc w _).alloc (by simp) _).alloc (by simp; omega) _) hB1 (by simp; omega)
       have HH := Lib.hid hh)
    | (go_at_call 13
       have hb2 := below_alloc w1 (.cells #[.int .u8 97, .int .u8 110] 5 (2, 3))
       refine (idxLocate _ kTexts _ _ _ [97, 110] (HH.out.at_ hb2) (by decide) (by decide) (alloc_sl _ _ _ _ (bytes [97, 110]) _ _ rfl rfl rfl (by simp))).mono ?_
       rintro e w2 ⟨v2, rfl, hs2, hB2⟩
       rw [kHits] at hs2
       have hb2 := hb2.trans (hB2.mono (by simp))
       have HS := Lib.hid hs2)
    | (go_at_call 19
       refine (lawHits _ _ _ [(0, 1), (0, 3), (1, 0)] (by decide) (HS.out.below (below_alloc _ _)) (hits_alloc _ _ _ _ _ _ rfl rfl (by decide) rfl)).mono ?_
       rintro e w3 ⟨rfl, m3, hw3⟩
       have hb3 : Below w2.heap.size w2 w3 := by rw [hw3]; exact below_drewN (below_alloc _ _) _
       have hb3 := below_up hb2 hb3 hb2.size
       clear hw3)
    | (go_at_call 12
       have hb4 := hb3.alloc hb3.size (.cells #[.int .u8 110, .int .u8 97] 5 (2, 3))
       refine (idxCountOf _ kTexts _ _ _ [110, 97] (HH.out.at_ hb4) (by decide) (by decide) (alloc_sl _ _ _ _ (bytes [110, 97]) _ _ rfl rfl rfl (by simp))).mono ?_
       rintro e w4 ⟨rfl, hB4⟩
       rw [kCount]
       have hb4 := below_up hb4 hB4 hb4.size))
  go_ret
  exact ⟨rfl, below_up hB0 hb4 hB0.size⟩

theorem lawHeavy (w : World) (v : Value) (l : List (List UInt8)) (hv : Texts w v l) :
    Calls Try.prog 11 #[v] w fun e w' => ∃ h, e = .returned (.bool h) ∧ (h = false → ∀ t ∈ l, t.length ≤ 800) ∧ ∃ m, w' = w.drewN m := by
  obtain ⟨vs, hvs, hvl, hvt⟩ := hv
  obtain ⟨ao, cap, rfl, hlc, hcm⟩ := hvs.form
  obtain ⟨n, hn⟩ : ∃ n, l.length = n := ⟨_, rfl⟩
  rw [hvl, hn] at hlc hvs ⊢
  have HVS := Lib.hid (fun i x (hx : vs[i]? = some x) => hvs.at_ i x hx)
  have HVT := Lib.hid hvt
  have HVL := Lib.hid hvl
  have HN := Lib.hid hn
  clear hvs hvt hvl hn
  go_enter Try.func11, Try.ntmps11
  go_wp2
  go_loopw [3, 4] (fun ts tk wr => ∃ (k s : Nat), k ≤ n ∧ tk = .int .i64 k ∧ ts = .int .i64 s ∧ s ≤ 800 ∧ Hid (∀ i t, i < k → l[i]? = some t → t.length ≤ 800) ∧ ∃ m, wr = w.drewN m) (fun _ tk _ => n - (intOf tk).toNat)
  case atStart => exact ⟨0, 0, Nat.zero_le _, rfl, rfl, Nat.zero_le _, Lib.hid (fun i t h => absurd h (by omega)), 0, rfl⟩
  case round =>
    obtain ⟨k, s, hk, rfl, rfl, hs, hall, mm, rfl⟩ := hrel
    by_cases hlt : k < n
    · have hkl : k < l.length := by rw [HN.out]; exact hlt
      have hkv : k < vs.length := by rw [HVL.out]; exact hkl
      obtain ⟨x, hx⟩ : ∃ x, vs[k]? = some x := ⟨_, List.getElem?_eq_getElem hkv⟩
      obtain ⟨b, off, rfl, cx⟩ := HVS.out k x hx
      have hsx := HVT.out k l[k] x (List.getElem?_eq_getElem hkl) hx
      obtain ⟨ao2, cap2, rfl, hlc2, hcm2⟩ := hsx.form
      rw [bytes_length] at cx hlc2
      obtain ⟨t, ht⟩ : ∃ t, l[k]? = some t := ⟨_, List.getElem?_eq_getElem hkl⟩
      have htt : l[k] = t := by rw [List.getElem?_eq_getElem hkl] at ht; exact Option.some.inj ht
      rw [htt] at cx hlc2
      obtain ⟨c, hc⟩ : ∃ c, t.length = c := ⟨_, rfl⟩
      rw [hc] at cx hlc2
      have HT := Lib.hid ht
      have HC := Lib.hid hc
      clear hsx ht htt hc hx
      by_cases h1 : 800 < c
      · have d1 : decide ((800 : Int) < (c : Int)) = true := decide_eq_true (by omega)
        go_wp2
        go_ret
        exact ⟨true, rfl, (fun e => by cases e), _, rfl⟩
      · have d1 : decide ((800 : Int) < (c : Int)) = false := decide_eq_false (by omega)
        by_cases h2 : 800 < s + 3 + c
        · have d2 : decide ((800 : Int) < (s : Int) + 3 + (c : Int)) = true := decide_eq_true (by omega)
          go_wp2
          go_ret
          exact ⟨true, rfl, (fun e => by cases e), _, rfl⟩
        · have d2 : decide ((800 : Int) < (s : Int) + 3 + (c : Int)) = false := decide_eq_false (by omega)
          go_wp2
          go_roundw
          case rel =>
            refine ⟨k + 1, s + 3 + c, by omega, by go_num, by go_num, by omega, Lib.hid ?_, mm, rfl⟩
            intro i t2 hi h2
            rcases Nat.lt_succ_iff_lt_or_eq.1 hi with q | rfl
            · exact hall.out i t2 q h2
            · rw [HT.out] at h2
              cases h2
              have := HC.out
              omega
          case measure => simp [intOf]; omega
    · obtain rfl : k = n := by omega
      go_wp2
      go_ret
      refine ⟨false, rfl, fun _ t ht => ?_, mm, rfl⟩
      obtain ⟨i, hi, rfl⟩ := List.getElem_of_mem ht
      exact hall.out i _ (by rw [← HN.out]; exact hi) (List.getElem?_eq_getElem hi)
end Go.Proofs.Ythgnapngjmgkcaa
