import Derived.Test.YthgnapngjmgkcaaWave2
/- Package wavelet: Build: the walk. -/
namespace Go.Proofs.Ythgnapngjmgkcaa
open Go.RowKit

theorem pow_wrap (wd : Nat) (h : wd ≤ 16) : wrap64 (2 ^ wd) = ((2 ^ wd : Nat) : Int) := by
  have hp := pow_small wd h
  rw [show (2 : Int) ^ wd = ((2 ^ wd : Nat) : Int) by simp]
  generalize 2 ^ wd = p at hp ⊢
  unfold wrap64; omega

theorem bools_snoc (A : List Bool) (b : Bool) : bools (A ++ [b]) = bools A ++ [.bool b] := by simp [bools]
theorem nats_snoc (A : List Nat) (b : Nat) : nats (A ++ [b]) = nats A ++ [.int .i64 b] := by simp [nats]
theorem heap_size_alloc (w : World) (o : Obj) : (w.alloc o).heap.size = w.heap.size + 1 := by simp
theorem sep_nil (v : Value) : Sep (.slice none 0 0) v := fun _ e => by cases e

/-- the digit, as the program takes it -/
theorem digit_bits (wd k d x : Nat) (hx : x < 65536) (hd : wd - 1 - k = d) : bits .and .i64 ((x : Int) / 2 ^ d) 1 = if bitN wd k x then 1 else 0 := by
  have h := bit_one x d (by omega)
  have hq : x / 2 ^ d < 65536 := Nat.lt_of_le_of_lt (Nat.div_le_self _ _) hx
  rw [bitN, hd, ← h]
  rw [show ((x : Int) / 2 ^ d) = ((x / 2 ^ d : Nat) : Int) by simp]
  have := i64_and (x / 2 ^ d) 1 (by omega) (by omega)
  rw [show (1 : Int) = ((1 : Nat) : Int) from rfl, this, Nat.and_one_is_mod]
  rcases Nat.mod_two_eq_zero_or_one (x / 2 ^ d) with e | e <;> simp [e]

def Built (w : World) (wd : Nat) (s : List Nat) (e : Ending) (w' : World) : Prop :=
  ∃ b, e = .returned (.tuple #[.pointer (some ⟨b, 0, none⟩), .int .i64 0]) ∧ w.heap.size ≤ b ∧ HeldTree w.heap.size w' b wd s ∧ Below w.heap.size w w'

set_option maxHeartbeats 1000000 in
theorem treeBuild (w : World) (wd : Nat) (v : Value) (s : List Nat) (h1 : 1 ≤ wd) (h2 : wd ≤ 16) (hs : Sl w v (nats s)) (hl : s.length ≤ 131072) (hlt : ∀ x ∈ s, x < 2 ^ wd) :
    Calls Try.prog 36 #[.int .i64 wd, v] w (Built w wd s) := by
  have hsl := hs
  obtain ⟨ao, cap, rfl, hlc, hcm⟩ := hs.form
  have hp := pow_small wd h2
  have hc : ∀ (i : Nat) (x : Value), (nats s)[i]? = some x → ∃ b off, ao = some ⟨b, off, none⟩ ∧ w.cell? ⟨b, off + i, none⟩ = some x := fun i x hx => hs.at_ i x hx
  rw [nats_length] at hlc hsl ⊢
  have HC := Lib.hid hc
  have HL := Lib.hid hlt
  have HS := Lib.hid hsl
  have HPW := Lib.hid (pow_wrap wd h2)
  clear hc hlt hs hsl
  go_enter Try.func36, Try.ntmps36
  go_wp2
  go_loop [29] (fun tk => ∃ k : Nat, k ≤ s.length ∧ tk = .int .i64 k) (fun tk => s.length - (intOf tk).toNat)
  case atStart => exact ⟨0, Nat.zero_le _, rfl⟩
  case round =>
    obtain ⟨k, hk, rfl⟩ := hrel
    by_cases hkl : k < s.length
    · obtain ⟨b, off, rfl, c⟩ := HC.out k _ (nats_get s k hkl)
      have hx := HL.out s[k] (List.getElem_mem hkl)
      have d1 : decide (((s[k] : Nat) : Int) < 0) = false := by simp
      have d2 : decide (wrap64 (2 ^ wd) ≤ ((s[k] : Nat) : Int)) = false := decide_eq_false (by rw [HPW.out]; exact Int.not_le.2 (Int.ofNat_lt.2 hx))
      go_wp2
      go_round
      case rel => exact ⟨k + 1, by omega, by go_num⟩
      case measure => simp [intOf]; omega
    · obtain rfl : k = s.length := by omega
      have hS1 := HS.out.below ((Below.refl _ _).alloc (Nat.le_refl _) (.cells #[.int .i64 s.length, .slice none 0 0] 81))
      obtain ⟨i0, hi0, hz0, hz1, hz2⟩ := info_parts Try.info_int
      have n1 : ∀ x ∈ nats s, x.oneCell' = true := by intro x hx; simp only [nats, List.mem_map] at hx; obtain ⟨n, _, rfl⟩ := hx; rfl
      have n2 : 0 + (nats s).length ≤ maxLen := by rw [nats_length]; unfold maxLen; omega
      have n3 : (0 + (nats s).length) * 8 ≤ 140737488355328 := by rw [nats_length]; omega
      go_wp2_with (at_builtin; refine wpList_append_sl _ rfl _ _ 43 rfl (w.heap.size + 1) 3 i0 _ 8 Try.underlying43 hi0 hz0 hz1 hz2 rfl _ 0 [] rfl (World.ownsRow_nil _ _ _ _) _ (nats s) rfl hS1 n1 n2 n3 (by simp) ?_; intro v9 w2 hown9 hgrow _ _)
      have hB2 : Below w.heap.size w w2 := (((Below.refl _ _).alloc (Nat.le_refl _) _).grown hgrow (by simp) (fun _ e => by cases e))
      have hlev : Levels w2 (w.heap.size + 1) w.heap.size wd s (.slice none 0 0) (fun _ => 0) 0 :=
        ⟨(hgrow.block _ (by simp) (by intro e; cases e)).trans (heap_alloc_new _ _), World.ownsRow_nil _ _ _ _, by omega, by have := hgrow.size; simpa using this, fun j hj => by omega⟩
      have hrow : w2.ownsRow (w.heap.size + 1) 3 1 v9 s.length (nats (rowAt wd s 0)) := by simpa [rowAt] using hown9
      have HL2 := Lib.hid hlev
      have HR2 := Lib.hid hrow
      clear hlev hrow hown9 hgrow hS1 n1 n2 n3
      go_wp2
      go_loopw [9, 10] (fun tr td wr => ∃ (k : Nat) (vl : Value) (bv : Nat → Nat), k ≤ wd ∧ td = .int .i64 ((wd : Int) - 1 - k) ∧ Hid (Levels wr (w.heap.size + 1) w.heap.size wd s vl bv k) ∧ Hid (wr.ownsRow (w.heap.size + 1) 3 1 tr s.length (nats (rowAt wd s k))) ∧ Below w.heap.size w wr)
        (fun _ td _ => (intOf td + 1).toNat)
      case atStart => exact ⟨0, _, _, Nat.zero_le _, by go_num, HL2.out, HR2.out, hB2⟩
      case round =>
        obtain ⟨k, vl, bv, hk, rfl, hlv, hrw, hB⟩ := hrel
        by_cases hkw : k < wd
        · have hrl : (rowAt wd s k).length = s.length := rowAt_length wd s k
          obtain ⟨ao1, cap1, rfl, _, hcm1⟩ := (own_sl hrw.out).form
          have hrg := fun i x (hx : (nats (rowAt wd s k))[i]? = some x) => (own_sl hrw.out).at_ i x hx
          rw [nats_length, hrl] at hrw ⊢
          have HRG := Lib.hid hrg
          clear hrg
          obtain ⟨d, hd⟩ : ∃ d, wd - 1 - k = d := ⟨_, rfl⟩
          rw [show (wd : Int) - 1 - k = (d : Int) by omega]
          have hd16 : d ≤ 16 := by omega
          have HD := Lib.hid hd
          clear hd
          clear hp HPW
          go_wp2
          obtain ⟨wo, hwo⟩ : ∃ wo, wo = wr := ⟨_, rfl⟩
          subst hwo
          have hpt : Parting (wo.alloc (.cells #[.slice none 0 0, .slice none 0 0] 92)) (wo.heap.size + 1) wo.heap.size (.slice none 0 0) (.slice none 0 0) (.slice none 0 0) [] [] [] :=
            ⟨heap_alloc_new _ _, World.ownsRow_nil _ _ _ _, World.ownsRow_nil _ _ _ _, World.ownsRow_nil _ _ _ _, sep_nil _, sep_nil _, sep_nil _, by omega, by simp⟩
          have HPT := Lib.hid hpt
          have hbA : Below wo.heap.size wo (wo.alloc (.cells #[.slice none 0 0, .slice none 0 0] 92)) := (Below.refl _ _).alloc (Nat.le_refl _) _
          clear hpt
          go_loopw [11, 14, 15, 56] (fun ta _ _ ti wx => ∃ (j : Nat) (va v0 v1 : Value), j ≤ s.length ∧ ti = .int .i64 j ∧ va = ta ∧ Hid (Parting wx (wo.heap.size + 1) wo.heap.size va v0 v1 (((rowAt wd s k).take j).map (bitN wd k)) (((rowAt wd s k).take j).filter fun c => !bitN wd k c) (((rowAt wd s k).take j).filter (bitN wd k))) ∧ Below wo.heap.size wo wx)
            (fun _ _ _ ti _ => s.length - (intOf ti).toNat)
          case atStart => exact ⟨0, _, _, _, Nat.zero_le _, rfl, rfl, by simp; exact HPT.out, hbA⟩
          case round =>
            obtain ⟨j, va, v0, v1, hj, rfl, rfl, hpa, hBx⟩ := hrel
            by_cases hjn : j < s.length
            · obtain ⟨x, hx⟩ : ∃ x, (rowAt wd s k)[j]? = some x := ⟨_, List.getElem?_eq_getElem (by omega)⟩
              have hxn : (nats (rowAt wd s k))[j]? = some (.int .i64 x) := by simp [nats, hx]
              obtain ⟨b9, o9, rfl, c⟩ := HRG.out j _ hxn
              have c := cell_below hBx c
              have hxs : x < 65536 := Nat.lt_of_lt_of_le (HL.out x ((rowAt_mem wd s k x).1 (List.mem_of_getElem? hx))) (pow_small wd h2)
              have htk : (rowAt wd s k).take (j + 1) = (rowAt wd s k).take j ++ [x] := by rw [List.take_add_one, hx]; rfl
              have hE := digit_bits wd k d x hxs HD.out
              have hlen : ((rowAt wd s k).take j).length = j := by rw [List.length_take]; omega
              obtain ⟨A, hA⟩ : ∃ A, ((rowAt wd s k).take j).map (bitN wd k) = A := ⟨_, rfl⟩
              obtain ⟨X, hX⟩ : ∃ X, (((rowAt wd s k).take j).filter fun c => !bitN wd k c) = X := ⟨_, rfl⟩
              obtain ⟨Y, hY⟩ : ∃ Y, ((rowAt wd s k).take j).filter (bitN wd k) = Y := ⟨_, rfl⟩
              have la : A.length ≤ 131072 := by rw [← hA, List.length_map]; omega
              have lx : X.length ≤ 131072 := by rw [← hX]; exact Nat.le_trans (List.length_filter_le _ _) (by omega)
              have ly : Y.length ≤ 131072 := by rw [← hY]; exact Nat.le_trans (List.length_filter_le _ _) (by omega)
              rw [hA, hX, hY] at hpa
              have HA := Lib.hid hA
              have HX := Lib.hid hX
              have HY := Lib.hid hY
              have HT := Lib.hid htk
              clear hA hX hY htk hlen hxn hx
              have hpa1 := hpa.out.below ((Below.refl _ _).alloc (Nat.le_refl _) (.cells #[.bool (bitN wd k x)] 4))
              have hoa := hpa1.2.1
              have hsx := hBx.size
              have hbx := hpa.out.2.2.2.2.2.2.2.2
              obtain ⟨ib, hib, hb0, hb1, hb2⟩ := info_parts Try.info_bool
              cases hb : bitN wd k x
              · rw [hb] at hE hpa1 hoa
                simp only [Bool.false_eq_true, if_false] at hE
                have HB := Lib.hid hb
                clear hb
                go_wp2_with (at_builtin; (first
                  | (refine wpList_append_lies _ rfl _ _ 91 rfl (wo.heap.size + 1) 4 ib _ 1 1 Try.underlying91 hib hb0 hb1 hb2 rfl (by omega) va A.length (bools A) rfl hoa ⟨wr.heap.size, 0, none⟩ 1 1 [.bool false] rfl rfl (World.news_of_block (cs := #[.bool false]) (t := 4) (fr := (0, 0)) (heap_alloc_new wr _)) (by simp [Value.oneCell']) (by omega) (by unfold maxLen; omega) (by omega) (by simp; omega) (wr.heap.size + 1) (by simp) ?_; intro g1 cap2 w3 hown1 hgrow1 hat1 hlt1
                     have hp3 := hpa1.digit (A' := A ++ [false]) hgrow1 (by rw [bools_snoc, List.length_append]; exact hown1) (by rw [World.size_alloc]; exact hat1) rfl
                     obtain ⟨c0, c1, cf⟩ := hp3.cells
                     have hs3 := hgrow1.size
                     have hp4 := hp3.below ((Below.refl _ _).alloc (Nat.le_refl _) (.cells #[.int .i64 (x : Nat)] 3))
                     have hov := hp4.2.2.1
                     have hbs := hp4.2.2.2.2.2.2.2.2
                     have HP3 := Lib.hid hp3
                     have HP4 := Lib.hid hp4
                     clear hp3 hp4)
                  | (refine wpList_append_lies _ rfl _ _ 43 rfl (wo.heap.size + 1) 3 i0 _ 1 8 Try.underlying43 hi0 hz0 hz1 hz2 rfl (by omega) v0 X.length (nats X) rfl hov ⟨w3.heap.size, 0, none⟩ 1 1 [.int .i64 (x : Nat)] rfl rfl (World.news_of_block (cs := #[.int .i64 (x : Nat)]) (t := 3) (fr := (0, 0)) (heap_alloc_new w3 _)) (by simp [Value.oneCell']) (by omega) (by unfold maxLen; omega) (by omega) hbs (w3.heap.size + 1) (by simp) ?_; intro g2 cap3 w4 hown2 hgrow2 hat2 hlt2
                     have hp5 := HP4.out.zero (X' := X ++ [x]) hgrow2 (by rw [nats_snoc, List.length_append]; exact hown2) (by rw [World.size_alloc]; exact hat2) rfl
                     have HP5 := Lib.hid hp5
                     have c2 := (HP4.out.kept0 hgrow2).1
                     have c3 := (HP4.out.kept0 hgrow2).2
                     clear hp5)))
                go_roundw
                case rel =>
                  refine ⟨j + 1, _, .slice (some ⟨g2, 0, none⟩) (X.length + 1) cap3, v1, by omega, by go_num, rfl, ?_, ?_⟩
                  · have := HP5.out
                    rw [HT.out, List.map_append, List.filter_append, List.filter_append, HA.out, HX.out, HY.out]
                    simp only [List.map_cons, List.map_nil, List.filter_cons, List.filter_nil, HB.out, Bool.not_false, if_true, Bool.false_eq_true, if_false, List.append_nil]
                    exact this
                  · have q1 := hgrow1.size
                    have q2 := hgrow2.size
                    refine (((((hBx.alloc hsx _).grown hgrow1 (by have := hBx.size; simp; omega) (fun i e => ?_)).alloc (by simp at q1; omega) _).grown hgrow2 (by simp at q1; simp; omega) (fun i e => ?_)).setCell (Nat.le_refl _) _)
                    · have := (hoa.lt i e).1; omega
                    · have := (hov.lt i e).1; omega
                case measure => simp [intOf]; omega
              · rw [hb] at hE hpa1 hoa
                simp only [if_true] at hE
                have HB := Lib.hid hb
                clear hb
                go_wp2_with (at_builtin; (first
                  | (refine wpList_append_lies _ rfl _ _ 91 rfl (wo.heap.size + 1) 4 ib _ 1 1 Try.underlying91 hib hb0 hb1 hb2 rfl (by omega) va A.length (bools A) rfl hoa ⟨wr.heap.size, 0, none⟩ 1 1 [.bool true] rfl rfl (World.news_of_block (cs := #[.bool true]) (t := 4) (fr := (0, 0)) (heap_alloc_new wr _)) (by simp [Value.oneCell']) (by omega) (by unfold maxLen; omega) (by omega) (by simp; omega) (wr.heap.size + 1) (by simp) ?_; intro g1 cap2 w3 hown1 hgrow1 hat1 hlt1
                     have hp3 := hpa1.digit (A' := A ++ [true]) hgrow1 (by rw [bools_snoc, List.length_append]; exact hown1) (by rw [World.size_alloc]; exact hat1) rfl
                     obtain ⟨c0, c1, cf⟩ := hp3.cells
                     have hs3 := hgrow1.size
                     have hp4 := hp3.below ((Below.refl _ _).alloc (Nat.le_refl _) (.cells #[.int .i64 (x : Nat)] 3))
                     have hov := hp4.2.2.2.1
                     have hbs := hp4.2.2.2.2.2.2.2.2
                     have HP3 := Lib.hid hp3
                     have HP4 := Lib.hid hp4
                     clear hp3 hp4)
                  | (refine wpList_append_lies _ rfl _ _ 43 rfl (wo.heap.size + 1) 3 i0 _ 1 8 Try.underlying43 hi0 hz0 hz1 hz2 rfl (by omega) v1 Y.length (nats Y) rfl hov ⟨w3.heap.size, 0, none⟩ 1 1 [.int .i64 (x : Nat)] rfl rfl (World.news_of_block (cs := #[.int .i64 (x : Nat)]) (t := 3) (fr := (0, 0)) (heap_alloc_new w3 _)) (by simp [Value.oneCell']) (by omega) (by unfold maxLen; omega) (by omega) hbs (w3.heap.size + 1) (by simp) ?_; intro g2 cap3 w4 hown2 hgrow2 hat2 hlt2
                     have hp5 := HP4.out.one (Y' := Y ++ [x]) hgrow2 (by rw [nats_snoc, List.length_append]; exact hown2) (by rw [World.size_alloc]; exact hat2) rfl
                     have HP5 := Lib.hid hp5
                     have c2 := (HP4.out.kept1 hgrow2).1
                     have c3 := (HP4.out.kept1 hgrow2).2
                     clear hp5)))
                go_roundw
                case rel =>
                  refine ⟨j + 1, _, v0, .slice (some ⟨g2, 0, none⟩) (Y.length + 1) cap3, by omega, by go_num, rfl, ?_, ?_⟩
                  · have := HP5.out
                    rw [HT.out, List.map_append, List.filter_append, List.filter_append, HA.out, HX.out, HY.out]
                    simp only [List.map_cons, List.map_nil, List.filter_cons, List.filter_nil, HB.out, Bool.not_true, if_true, Bool.false_eq_true, if_false, List.append_nil]
                    exact this
                  · have q1 := hgrow1.size
                    have q2 := hgrow2.size
                    refine (((((hBx.alloc hsx _).grown hgrow1 (by have := hBx.size; simp; omega) (fun i e => ?_)).alloc (by simp at q1; omega) _).grown hgrow2 (by simp at q1; simp; omega) (fun i e => ?_)).setCell (Nat.le_refl _) _)
                    · have := (hoa.lt i e).1; omega
                    · have := (hov.lt i e).1; omega
                case measure => simp [intOf]; omega
            · obtain rfl : j = s.length := by omega
              rw [List.take_of_length_le (by omega)] at hpa
              obtain ⟨X, hX⟩ : ∃ X, ((rowAt wd s k).filter fun c => !bitN wd k c) = X := ⟨_, rfl⟩
              obtain ⟨Y, hY⟩ : ∃ Y, (rowAt wd s k).filter (bitN wd k) = Y := ⟨_, rfl⟩
              have hz : lvZeros wd s k = X.length := by rw [lvZeros, hX]
              have hXY : rowAt wd s (k + 1) = X ++ Y := by rw [← hX, ← hY]; rfl
              have hxy : X.length + Y.length = s.length := by rw [← List.length_append, ← hXY, rowAt_length]
              rw [hX, hY] at hpa
              obtain ⟨ao0, cap0, hv0, _, _⟩ := (own_sl hpa.out.2.2.1).form
              rw [nats_length] at hv0
              subst hv0
              have HXY := Lib.hid hXY
              have HZ := Lib.hid hz
              clear hX hY hXY hz
              obtain ⟨c0, c1, cf⟩ := hpa.out.cells
              have ct := cell_below hBx ((cell_heap (o := 1) hlv.out.1).trans rfl)
              have hbits : Calls Try.prog 56 #[va] wr.drew (MadeVec wr.drew s.length (lvBits wd s k)) := by
                have hq := vecOf wr.drew va ((rowAt wd s k).map (bitN wd k)) (by rw [List.length_map]; omega) (own_sl (own_drewN hpa.out.2.1 1))
                rw [List.length_map, hrl] at hq
                have e : (fun j => ((rowAt wd s k).map (bitN wd k)).getD j false) = lvBits wd s k := by
                  funext j
                  rw [lvBits, bitsOf, List.getD_eq_getElem?_getD, List.getElem?_map]
                  cases (rowAt wd s k)[j]? <;> rfl
                rw [e] at hq
                exact hq
              have HBITS := Lib.hid hbits
              clear hbits
              go_wp2
              refine wp_region_mix (Cells2 ⟨w.heap.size, 1, none⟩ ⟨wo.heap.size, 0, none⟩ vl (.slice ao0 X.length cap0)) [true, true, true, true, true, true, false, true, true, true] [false, false, false, false, false, false, true, false, false, false, true, true, true] [false, false, false, false, false, false, false, false, false, false, false, false, false, true, true, true] (by kernel_rfl) (by kernel_rfl) ⟨ct, c0⟩ (fun _ _ d _ _ h => by cases d <;> exact h) ?_
              simp only [selM]
              have hne := meets_ne (S := Cells2 ⟨w.heap.size, 1, none⟩ ⟨wo.heap.size, 0, none⟩ vl (.slice ao0 X.length cap0)) (w := wr) ⟨ct, c0⟩
              have y0 := Cells2.e1 (a := ⟨w.heap.size, 1, none⟩) (b := ⟨wo.heap.size, 0, none⟩) (u := vl) (v := .slice ao0 X.length cap0)
              have y3 := Cells2.e2 (a := ⟨w.heap.size, 1, none⟩) (b := ⟨wo.heap.size, 0, none⟩) (u := vl) (v := .slice ao0 X.length cap0)
              repeat (go_big_quiet_step (fail))
              refine wpQuiet_nil ?_
              clear y0 y3 hne
              refine pre_cons ?_
              go_wp2_with (go_at_call 56; refine HBITS.out.mono ?_; rintro e w5 ⟨b5, rfl, hb5, hv5, hbe5, hheld⟩)
              have HA5 : Below wr.heap.size wr w5 := below_up ((Below.refl _ _).drew) hbe5 (Nat.le_refl _)
              refine mid_normal ⟨⟨cell_below HA5 ct, cell_below HA5 c0⟩, pre_cons ?_⟩
              go_wp2
              refine mid_normal ⟨⟨cell_below HA5 ct, cell_below HA5 c0⟩, pre_cons ?_⟩
              go_wp2
              have HA6 : Below wr.heap.size wr (w5.alloc (.cells #[.pointer (some ⟨b5, 0, none⟩), .int .i64 X.length] 83)) := HA5.alloc HA5.size _
              have hownl := own_row_below (own_row_below hlv.out.2.1 hBx) HA6
              have hvlt := own_lt hlv.out.2.1
              have hbt := hlv.out.2.2.1
              have hlo := hlv.out.2.2.2.1
              have hs5 := HA5.size
              have hsx := hBx.size
              obtain ⟨il, hil, hl0, hl1, hl2⟩ := info_parts Try.info_level
              refine mid_normal ⟨⟨cell_below HA6 ct, cell_below HA6 c0⟩, pre_cons ?_⟩
              go_wp2_with (at_builtin; refine wpList_append_lies _ rfl _ _ 79 rfl (w.heap.size + 1) 83 il _ 2 16 Try.underlying79 hil hl0 hl1 hl2 rfl (by omega) vl k (levelCells wd s bv k) rfl hownl ⟨w5.heap.size, 0, none⟩ 1 1 [.pointer (some ⟨b5, 0, none⟩), .int .i64 X.length] rfl rfl (World.news_of_block (cs := #[.pointer (some ⟨b5, 0, none⟩), .int .i64 X.length]) (t := 83) (fr := (0, 0)) (heap_alloc_new w5 _)) (by simp [Value.oneCell']) (by omega) (by unfold maxLen; omega) (by omega) (by simp; omega) (w5.heap.size + 1) (by simp) ?_; intro g1 cap2 w6 hown1 hgrow1 hat1 hlt1)
              have e0 := (heap_size_alloc w5 (.cells #[.pointer (some ⟨b5, 0, none⟩), .int .i64 X.length] 83))
              have K6 : Keeps (fun i => some i = vl.ownBlock) wr w6 := (Keeps.of_below HA6 _).trans (Keeps.of_grownBy hgrow1 fun i e => e.symm)
              have hbp : wo.heap.size < wr.heap.size := by have := hpa.out.2.2.2.2.2.2.2.2; omega
              have f0 : some w.heap.size ≠ vl.ownBlock := fun e => own_far hlv.out.2.1 hbt e.symm
              have f1 : some wo.heap.size ≠ vl.ownBlock := fun e => by have := hvlt _ e.symm; omega
              have x0 := K6.cell ct f0
              have x1 := K6.cell c0 f1
              have x2 : w6.frozen? ⟨w.heap.size, 1, none⟩ = false := by
                have := K6.heap ((hBx.block w.heap.size (by omega)).trans hlv.out.1) f0
                simp [World.frozen?, this]
              refine mid_normal ⟨⟨x0, x1⟩, pre_nil ?_⟩
              have K7 : Keeps (fun i => some i = vl.ownBlock ∨ i = w.heap.size) wr (w6.setCell ⟨w.heap.size, 1, none⟩ (.slice (some ⟨g1, 0, none⟩) (k + 1) cap2)) := (K6.mono fun i e => .inl e).setCell (.inr rfl) _
              have hp7 := hpa.out.under (K7.mono fun i e => by
                rcases e with e | e
                · exact hvlt i e.symm
                · omega)
              have y0 := hp7.cells.1
              have y1 := hp7.cells.2.1
              have hv0 := hp7.2.2.1
              have hv1 := own_sl hp7.2.2.2.1
              have n1 : ∀ x ∈ nats Y, x.oneCell' = true := by intro x hx; simp only [nats, List.mem_map] at hx; obtain ⟨n, _, rfl⟩ := hx; rfl
              have n2 : X.length + (nats Y).length ≤ maxLen := by rw [nats_length]; unfold maxLen; omega
              have n3 : (X.length + (nats Y).length) * 8 ≤ 140737488355328 := by rw [nats_length]; omega
              have n4 := hp7.2.2.2.2.2.2.2.2
              have K7' := Lib.hid K7
              have HP7 := Lib.hid hp7
              have c2 : (w6.setCell ⟨w.heap.size, 1, none⟩ (.slice (some ⟨g1, 0, none⟩) (k + 1) cap2)).heap[w.heap.size]? = some (.cells #[.int .i64 s.length, .slice (some ⟨g1, 0, none⟩) (k + 1) cap2] 81 (0, 0)) := by
                have := K6.heap ((hBx.block w.heap.size (by omega)).trans hlv.out.1) f0
                simp [World.setCell, Array.getElem?_modify, this]
              have C2 := Lib.hid c2
              clear K7 hp7 c2 hownl
              go_wp2_with (at_builtin; refine wpList_append_sl _ rfl _ _ 43 rfl (wo.heap.size + 1) 3 i0 _ 8 Try.underlying43 hi0 hz0 hz1 hz2 rfl _ X.length (nats X) rfl hv0 _ (nats Y) rfl hv1 n1 n2 n3 n4 ?_; intro v9 w8 hown9 hgrow9 _ hat9)
              go_roundw
              case rel =>
                have hd := HD.out
                have hv0f := own_lt hpa.out.2.2.1
                have hv0b := fun i (e : some i = (Value.slice ao0 X.length cap0).ownBlock) => (hv0.lt i e.symm).1
                have z1 := hgrow1.size
                have z9 := hgrow9.size
                rw [e0] at z1
                have z7 : (w6.setCell ⟨w.heap.size, 1, none⟩ (.slice (some ⟨g1, 0, none⟩) (k + 1) cap2)).heap.size = w6.heap.size := World.size_setCell _ _ _
                have KK : Keeps (fun i => some i = vl.ownBlock ∨ i = w.heap.size) wo w8 := ((Keeps.of_below hBx _).trans K7'.out).trans' (Keeps.of_grownBy (S := fun i => some i = (Value.slice ao0 X.length cap0).ownBlock) hgrow9 (fun i e => e.symm)) (fun i e => .inl (by have := hv0b i e; omega))
                have hfar0 : some w.heap.size ≠ (Value.slice ao0 X.length cap0).ownBlock := fun e => by have := hv0b _ e; omega
                have hg1 : ∀ i, (Value.slice (some ⟨g1, 0, none⟩) (k + 1) cap2).ownBlock = some i → i = g1 := fun i e => by simpa [Value.ownBlock] using e.symm
                refine ⟨k + 1, .slice (some ⟨g1, 0, none⟩) (k + 1) cap2, fun j => if j = k then b5 else bv j, by omega, congrArg (Value.int .i64) (by omega), ?_, ?_, ?_⟩
                · refine hlv.out.next (b := b5) (lo := wr.heap.size) (hi := w5.heap.size) KK ((hgrow9.block _ (by omega) hfar0).trans C2.out) ?_ ?_ hsx (by omega) ?_
                  · rw [HZ.out]
                    refine own_row_grown (own_set hown1 (by omega)) hgrow9 fun i e e' => ?_
                    have a1 := hv0f i e
                    have a2 := hv0b i e.symm
                    obtain rfl := hg1 i e'
                    rcases hat1 with q | q
                    · have := hvlt _ q; omega
                    · omega
                  · refine hheld.next (by omega) fun i i1 i2 => ?_
                    have i1 : wr.heap.size ≤ i := i1
                    rw [hgrow9.block i (by omega) (fun e => by have := hv0f i e.symm; omega), Below.heap_setCell _ _ _ _ (by simp; omega), hgrow1.block i (by omega) (fun e => by have := hvlt i e.symm; omega)]
                    exact ((Below.refl w5.heap.size w5).alloc (Nat.le_refl _) _).block i i2
                  · intro i e
                    obtain rfl := hg1 i e
                    rcases hat1 with q | q
                    · exact .inl q
                    · exact .inr ⟨by omega, .inr (by omega)⟩
                · rw [HXY.out, ← hxy, show nats (X ++ Y) = nats X ++ nats Y by simp [nats]]
                  have := own_base hown9 (base' := w.heap.size + 1) (by omega)
                  rw [nats_length] at this
                  exact this
                · refine hB.trans (KK.below (fun i e => ?_) hB.size)
                  rcases e with e | e
                  · have := (hlv.out.2.1.lt i e.symm).1; omega
                  · omega
              case measure => simp [intOf]
        · obtain rfl : k = wd := by omega
          rw [show (k : Int) - 1 - k = -1 by omega]
          clear hp HPW
          go_wp2
          go_ret2
          exact ⟨w.heap.size, rfl, Nat.le_refl _, fun W q1 q2 => (hlv.out.agree q1 q2 (Nat.le_refl _)).tree h1 h2 hl HL.out, hB⟩
end Go.Proofs.Ythgnapngjmgkcaa
