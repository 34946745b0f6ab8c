import Derived.Test.YthgnapngjmgkcaaFm2
import Derived.Test.YthgnapngjmgkcaaWave2
/- Package fm: find of nothing, place, Count, Turned. -/
namespace Go.Proofs.Ythgnapngjmgkcaa
open Go.RowKit Go.Shelf

theorem quiet_add {P : Program} {f : FuncId} {args : Array Value} {w : World} {a n : Nat} {v : Value}
    (h : Calls P f args (w.drewN (a + n)) fun e w' => e = .returned v ∧ ∃ m, w' = (w.drewN (a + n)).drewN m) :
    Calls P f args (w.drewN (a + n)) fun e w'' => e = .returned v ∧ ∃ m, w'' = w.drewN (a + m) :=
  h.mono fun _ _ ⟨he, m, hm⟩ => ⟨he, n + m, by rw [hm, World.drewN_drewN, Nat.add_assoc]⟩
/-- of a nil Index, or of a pattern without bytes, nothing is found -/
theorem idxFindNil (w : World) (ao : Option Addr) (len cap : Nat) :
    Calls Try.prog 21 #[.pointer none, .slice ao len cap] w fun e w' => e = .returned (.tuple #[.int .i64 0, .int .i64 0]) ∧ Below w.heap.size w w' := by
  have hw1 := fun W => idxNil W
  have HW1 := Lib.hid hw1
  clear hw1
  go_enter Try.func21, Try.ntmps21
  go_wp2_with (go_at_call 31; refine (HW1.out _).mono ?_; rintro e w' ⟨rfl, rfl⟩)
  exact bodyPost_ret (v := .tuple #[.int .i64 0, .int .i64 0]) (by simp [results, Try.f21, go_sem]) rfl ⟨rfl, (((Below.refl _ _).alloc (Nat.le_refl _) _).alloc (by simp) _).alloc (by simp; omega) _⟩

set_option maxHeartbeats 1000000 in
theorem idxPlace (b : Nat) (s sa st : List Nat) (w : World) (q i : Nat) (h : IsIdx w b s sa st) (hq : q < s.length) (hi : rk sa q = i) :
    Calls Try.prog 22 #[.pointer (some ⟨b, 0, none⟩), .int .i64 i] w fun e w' => e = .returned (.int .i64 q) ∧ Below w.heap.size w w' := by
  have H := Lib.hid h
  obtain ⟨h1, h2, h3, h4, bt, bl, bm, bp, br, wd, m, vs, f, hm, c0, c1, c2, c3, c4, c5, t0, t1, t2, t3, t4, t5, t6⟩ := h
  have H1 := Lib.hid h1
  have HM := Lib.hid hm
  have T3 := Lib.hid t3
  have T4 := Lib.hid t4
  have T5 := Lib.hid t5
  have HI := Lib.hid hi
  clear c0 c1 c2 c5 t0 t1 t2 t3 t4 t5 t6 h1 h2 h4 hm hi
  go_enter Try.func22, Try.ntmps22
  go_wp2
  go_loopw [1, 5] (fun ti tn wr => ∃ k j : Nat, k ≤ q ∧ Hid (rk sa (q - k) = j) ∧ ti = .int .i64 j ∧ tn = .int .i64 k ∧ Below w.heap.size w wr) (fun _ tn _ => q - (intOf tn).toNat)
  case atStart => exact ⟨0, i, Nat.zero_le _, HI.out, rfl, rfl, Below.refl _ _⟩
  case round =>
    obtain ⟨k, j, hk, hj, rfl, rfl, hB⟩ := hrel
    have hqk : q - k < s.length := by omega
    have hjl : j < s.length := by rw [← hj.out]; exact rk_lt H1.out hqk
    have d3 := cell_below hB c3
    have d4 := cell_below hB c4
    have hget := vecGet bm s.length (marks sa) j wr (T3.out.below hB) (by omega) (by omega)
    have hmk : marks sa j = mark8 (q - k) := by
      have hsj : sa.getD j 0 = q - k := by rw [← hj.out]; exact sa_rk H1.out hqk
      simp only [marks, hsj, sa_len H1.out, hjl, decide_true, Bool.true_and]
    rw [Int.toNat_natCast, hmk] at hget
    by_cases hm8 : mark8 (q - k) = true
    · rw [hm8] at hget
      have HG := Lib.hid hget
      have hsat := sampled_at sa j (by rw [sa_len H1.out]; exact hjl) (by rw [show sa.getD j 0 = q - k by rw [← hj.out]; exact sa_rk H1.out hqk]; exact hm8)
      rw [show sa.getD j 0 = q - k by rw [← hj.out]; exact sa_rk H1.out hqk, sampled_length H1.out, HM.out] at hsat
      obtain ⟨e1, e2⟩ := hsat
      rw [← T5.out _ e2] at e1
      have hrk := fun W (hb : Below wr.heap.size wr W) => vecRank bm s.length (marks sa) true j W ((T3.out.below hB).below hb) (by omega) (by omega)
      simp only [rankZ, if_true, Int.toNat_natCast] at hrk
      generalize cnt (marks sa) j = r at hrk e1 e2
      have hpg := fun W (hb : Below wr.heap.size wr W) => packGet bp wd m r f W ((T4.out.below hB).below hb) e2
      rw [e1] at hpg
      have HR := Lib.hid hrk
      have HP := Lib.hid hpg
      have s1 : IntKind.i64.wrap ((q - k : Nat) : Int) = ((q - k : Nat) : Int) := IntWalk.i64_in _ (by omega)
      have s2 : IntKind.i64.wrap (((q - k : Nat) : Int) + k) = (q : Int) := by rw [IntWalk.i64_in _ (by omega)]; omega
      have s3 : ((q - k : Nat) : Int) + k = (q : Int) := by omega
      clear hget hrk hpg e1 hm8 hmk
      go_wp2_with (go_at_call 41; refine HG.out.mono ?_; rintro e w1 ⟨rfl, n1, rfl⟩)
      have hD : Below wr.heap.size wr (wr.drewN n1) := below_drewN (Below.refl _ _) n1
      go_quiet ((first
        | (go_at_call 43; exact quiet_add (HR.out _ (below_drewN (Below.refl _ _) _)))
        | (go_at_call 42; exact quiet_add (HP.out _ (below_drewN (Below.refl _ _) _)))))
      clear s1 s2 s3
      go_wp2
      go_ret
      exact ⟨rfl, below_drewN (below_drewN hB _) _⟩
    · have hm8' : mark8 (q - k) = false := by simpa using hm8
      rw [hm8'] at hget
      have HG := Lib.hid hget
      have hne : q - k ≠ 0 := fun e => by rw [e] at hm8; exact hm8 rfl
      obtain ⟨r, hr⟩ : ∃ r, q - k = r + 1 := ⟨q - k - 1, by omega⟩
      obtain ⟨j2, hj2⟩ : ∃ j2, rk sa r = j2 := ⟨_, rfl⟩
      have hjr : rk sa (r + 1) = j := by rw [← hr]; exact hj.out
      have hah := fun W (hb : Below wr.heap.size wr W) => idxAhead b s sa st W r j j2 ((H.out.below hB).below hb) (by omega) hjr hj2
      have HAH := Lib.hid hah
      have HJ2 := Lib.hid hj2
      clear hget hah hm8 hm8' hmk hjr hj2
      go_wp2_with (first
        | (go_at_call 41; refine HG.out.mono ?_; rintro e w1 ⟨rfl, n1, rfl⟩)
        | (go_at_call 30; refine (HAH.out _ (below_drewN (Below.refl _ _) _)).mono ?_; rintro e w2 ⟨rfl, hb2⟩))
      go_roundw
      case rel => exact ⟨k + 1, j2, by omega, by rw [show q - (k + 1) = r by omega]; exact HJ2.out, rfl, by go_num, below_up hB (below_up (below_drewN (Below.refl _ _) _) hb2 (Nat.le_refl _)) hB.size⟩
      case measure => simp [intOf]; omega

theorem idxCount (b : Nat) (s sa st : List Nat) (w : World) (v : Value) (p : List UInt8) (h : IsIdx w b s sa st) (h0 : 0 < p.length) (hp : p.length ≤ 1048576) (hv : Sl w v (bytes p)) :
    Calls Try.prog 12 #[.pointer (some ⟨b, 0, none⟩), v] w fun e w' => ∃ fr tt : Nat, e = .returned (.int .i64 ((tt - fr : Nat) : Int)) ∧ Ival s sa (p.map sh) fr tt ∧ fr ≤ tt ∧ Below w.heap.size w w' := by
  have hf := idxFind b s sa st w v p h h0 hp hv
  have hn := h.2.2.1
  obtain ⟨ao, cap, rfl, hlc, hcm⟩ := hv.form
  have HF := Lib.hid hf
  clear hf hv h
  rw [bytes_length] at HF hlc ⊢
  obtain ⟨len, hlen⟩ : ∃ len, p.length = len := ⟨_, rfl⟩
  rw [hlen] at HF h0 hp hlc ⊢
  clear hlen
  go_enter Try.func12, Try.ntmps12
  go_wp2_with (go_at_call 21; refine HF.out.mono ?_; rintro e w1 ⟨fr, tt, rfl, hi, hle, hB⟩
               have hfr := hi.1
               have htt := hi.2.1)
  go_ret
  exact ⟨fr, tt, ret_int (by omega), hi, hle, hB⟩
theorem idxCountNil (w : World) (ao : Option Addr) (len cap : Nat) :
    Calls Try.prog 12 #[.pointer none, .slice ao len cap] w fun e w' => e = .returned (.int .i64 0) ∧ Below w.heap.size w w' := by
  have HF := Lib.hid (fun W => idxFindNil W ao len cap)
  go_enter Try.func12, Try.ntmps12
  go_wp2_with (go_at_call 21; refine (HF.out _).mono ?_; rintro e w1 ⟨rfl, hB⟩)
  go_ret
  exact ⟨rfl, hB⟩

set_option maxHeartbeats 1000000 in
/-- all symbols -/
theorem treeAll (b wd : Nat) (s : List Nat) (w : World) (h : IsTree w b wd s) :
    Calls Try.prog 32 #[.pointer (some ⟨b, 0, none⟩)] w fun e w' => ∃ v : Value, e = .returned v ∧ w'.ownsRow w.heap.size 3 1 v s.length (nats s) ∧ Below w.heap.size w w' := by
  obtain ⟨i0, hi0, hz0, hz1, hz2⟩ := info_parts Try.info_int
  have hl1 := treeLen b wd s w h
  have hlen : s.length ≤ 131072 := by obtain ⟨_, _, _, _, _, _, _, _, _, h, _⟩ := h; exact h
  have HL1 := Lib.hid hl1
  have H := Lib.hid h
  obtain ⟨n, hn⟩ : ∃ n, s.length = n := ⟨_, rfl⟩
  rw [hn] at HL1 hlen ⊢
  have HN := Lib.hid hn
  clear h hl1 hn
  have ho0 : w.ownsRow w.heap.size 3 1 (.slice none 0 0) 0 (nats (s.take 0)) := World.ownsRow_nil _ _ _ _
  have HO0 := Lib.hid ho0
  clear ho0
  go_enter Try.func32, Try.ntmps32
  go_wp2_with (go_at_call 28; refine HL1.out.mono ?_; rintro e w' ⟨rfl, rfl⟩)
  go_loopw [3, 7] (fun ta tk wr => ∃ (k : Nat) (va : Value), k ≤ n ∧ tk = .int .i64 k ∧ va = ta ∧ Hid (wr.ownsRow w.heap.size 3 1 va k (nats (s.take k))) ∧ Below w.heap.size w wr) (fun _ tk _ => n - (intOf tk).toNat)
  case atStart => exact ⟨0, _, Nat.zero_le _, rfl, rfl, HO0.out, Below.refl _ _⟩
  case round =>
    obtain ⟨k, va, hk, rfl, rfl, ho, hBr⟩ := hrel
    by_cases hlt : k < n
    · have hks : k < s.length := by rw [HN.out]; exact hlt
      have hg := fun W (hb : Below wr.heap.size wr W) => treeGet b wd s[k] k s W ((H.out.below hBr).below hb) (by omega) (by rw [Int.toNat_natCast]; exact List.getElem?_eq_getElem hks)
      have hnx : s.take (k + 1) = s.take k ++ [s[k]] := List.take_succ_eq_append_getElem hks
      generalize s[k] = x at hg hnx
      have HG := Lib.hid hg
      have HNX := Lib.hid hnx
      have hbs := hBr.size
      clear hg hnx
      go_wp2_with (first
        | (go_at_call 29; refine (HG.out _ (Below.refl _ _)).mono ?_; rintro e w1 ⟨rfl, hb1⟩
           have ho1 := own_row_below ho.out hb1
           have hB1 := below_up hBr hb1 hBr.size
           have hs1 := hB1.size)
        | (at_builtin; refine wpList_append_lies _ rfl _ _ 43 rfl w.heap.size 3 i0 _ 1 8 Try.underlying43 hi0 hz0 hz1 hz2 rfl (by omega) va k _ rfl (ho1.alloc _) ⟨w1.heap.size, 0, none⟩ 1 1 [.int .i64 (x : Nat)] rfl rfl (World.news_of_block (cs := #[.int .i64 (x : Nat)]) (t := 3) (fr := (0, 0)) (heap_alloc_new w1 _)) (by simp [Value.oneCell']) (by omega) (by unfold maxLen; omega) (by omega) (by simp; omega) (w1.heap.size + 1) (by simp) ?_; intro gg cap2 w2 hown1 hgrow hat hlt2))
      go_roundw
      case rel =>
        refine ⟨k + 1, _, by omega, by go_num, rfl, ?_, ?_⟩
        · rw [HNX.out, nats_app]; exact hown1
        · exact ((hB1.alloc hB1.size _).grown hgrow (by have := hB1.size; simp; omega) (fun j hj => (ho1.lt j hj).1))
      case measure => simp [intOf]; omega
    · obtain rfl : k = n := by omega
      have hf := ho.out
      rw [List.take_of_length_le (by have := HN.out; omega)] at hf
      have HF := Lib.hid hf
      clear hf
      go_wp2
      go_ret
      exact ⟨va, rfl, HF.out, hBr⟩
theorem idxTurned (b : Nat) (s sa st : List Nat) (w : World) (h : IsIdx w b s sa st) :
    Calls Try.prog 18 #[.pointer (some ⟨b, 0, none⟩)] w fun e w' => ∃ v : Value, e = .returned v ∧ w'.ownsRow w.heap.size 3 1 v s.length (nats (turnedOf s sa)) ∧ Below w.heap.size w w' := by
  have HW := Lib.hid (idxWhole b s sa st w h)
  obtain ⟨h1, h2, h3, h4, bt, bl, bm, bp, br, wd, m, vs, f, hm, c0, c1, c2, c3, c4, c5, t0, t1, t2, t3, t4, t5, t6⟩ := h
  have ha := treeAll bt 9 (turnedOf s sa) w t0
  rw [turnedOf_length h1] at ha
  have HA := Lib.hid ha
  clear h1 h2 h3 h4 hm c1 c2 c3 c4 c5 t0 t1 t2 t3 t4 t5 t6 ha
  go_enter Try.func18, Try.ntmps18
  go_wp2_with (first
    | (go_at_call 31; refine HW.out.mono ?_; rintro e w' ⟨rfl, rfl⟩)
    | (go_at_call 32; refine HA.out.mono ?_; rintro e w1 ⟨v, rfl, ho, hB⟩))
  go_ret
  exact ⟨v, rfl, ho, hB⟩
theorem idxTurnedNil (w : World) :
    Calls Try.prog 18 #[.pointer none] w fun e w' => e = .returned (.slice none 0 0) ∧ w = w' := by
  go_enter Try.func18, Try.ntmps18
  go_wp2_with (go_at_call 31; refine (idxNil _).mono ?_; rintro e w' ⟨rfl, rfl⟩)
  go_ret
  exact ⟨rfl, rfl⟩
end Go.Proofs.Ythgnapngjmgkcaa
