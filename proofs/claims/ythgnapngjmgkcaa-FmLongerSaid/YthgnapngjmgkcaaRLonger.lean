import Derived.Test.YthgnapngjmgkcaaRows
import Derived.Test.YthgnapngjmgkcaaLawLonger
import Derived.Test.YthgnapngjmgkcaaOpen2
import Derived.Test.YthgnapngjmgkcaaPost
import Derived.ProofKit
import Derived.OpenShut
/- The statement 'FmLongerSaid': a longer pattern stands nowhere where its beginning does not, for any texts and bytes; no condition. -/
namespace Go.Proofs.Ythgnapngjmgkcaa.fmLonger
open Go.ChangeShapes Go.WideShapes Go.ChangeAt Go.RowKit

theorem own : ownKnob Try.prog.godebug = none := by kernel_rfl

set_option maxRecDepth 100000 in
theorem lifted (os : Os) (started : os.Started) (H : Type) (enc : TypeId × Value → H) :
    ReturnsInHanded {} Try.checked os 5 .any (Rows.fmLongerSpec.pre6 enc Try.prog Try.f5 Rows.fmLongerRow.domain false) (Rows.fmLongerSpec.post enc Try.prog Try.f5 false true false false) := by
  refine returnsInHanded_of_change_sized (C := Try.checked) own started (by kernel_rfl) Try.func5
    (ChangeSpec.witness6 (enc := enc) (C := Try.checked) false ⟨#[], #[.slice none 0 0, .slice none 0 0, .slice none 0 0], []⟩ 8 (by kernel_rfl) (by kernel_rfl) (by kernel_rfl) (by kernel_rfl)) ?_
  intro W base args ds gs before hval0 hW hcnd hsz0 _
  have hval : ∀ (j : Nat) t v, Try.f5.params[j]? = some t → args[j]? = some v → Value.okWide Try.prog W .any base t v := hval0
  have hW' := hW
  have hbl := fun p hp => hW.lt p hp
  obtain ⟨p, q, hA0, hV, rfl, hfz, hnd⟩ := hW
  have hA : DataW.TrodAll enc Try.prog W 0 (fun _ => true) true Try.f5.params.toList args.toList ds p := hA0
  rw [Try.params5] at hA hval
  obtain ⟨v0, vs0, d0, ds0, p0, q0, hargs, rfl, rfl, h0, r0⟩ := trodAll_cons hA
  obtain ⟨v1, vs1, d1, ds1, p1, q1, rfl, rfl, rfl, h1, r1⟩ := trodAll_cons r0
  obtain ⟨v2, vs2, d2, ds2, p2, q2, rfl, rfl, rfl, h2, r2⟩ := trodAll_cons r1
  obtain ⟨rfl, rfl, rfl⟩ := trodAll_nil r2
  obtain rfl : args = #[v0, v1, v2] := by cases args; simp_all
  obtain ⟨rfl, rfl⟩ := trodVars_none hV
  have hsz := hsz0
  rw [Try.params5] at hsz
  clear hsz0
  have hs0 := okWide_slice Try.underlying23 (hval 0 23 v0 rfl rfl)
  obtain ⟨l0, hl0⟩ := openTexts hs0 h0
  have hs1 := okWide_slice Try.underlying24 (hval 1 24 v1 rfl rfl)
  obtain ⟨l1, hl1, hn1⟩ := openBytesS hs1 h1 (fun elems rest e => sized_slice (elems := elems) (spare := rest) hsz (j := 1) (t := 24) rfl (by rw [e]; rfl) Try.underlying24)
  have hs2 := okWide_slice Try.underlying24 (hval 2 24 v2 rfl rfl)
  obtain ⟨l2, hl2, hn2⟩ := openBytesS hs2 h2 (fun elems rest e => sized_slice (elems := elems) (spare := rest) hsz (j := 2) (t := 24) rfl (by rw [e]; rfl) Try.underlying24)
  clear hA0 hval0
  simp only [List.append_nil, List.nil_append] at hW' hbl
  refine (walkLonger W v0 l0 v1 l1 v2 l2 hl0 hl1 hl2 hn1 hn2).mono fun e W' ⟨he, hg⟩ => ?_
  subst he
  exact ⟨_, rfl, post_of_below (pv := []) hW' (fun _ _ _ => (trodAll_cons_mk (shut_bool Try.underlying4 _) trodAll_mk0)) (fun sp hsp => (trodAll_cons_mk (argStays Try.readTexts Try.rowTexts h0 hg (fun x hx => hbl x (by simp [hx])) (fun x hx => hsp x (by simp [hx]))) (trodAll_cons_mk (argStays Try.readBytes Try.rowBytes h1 hg (fun x hx => hbl x (by simp [hx])) (fun x hx => hsp x (by simp [hx]))) (trodAll_cons_mk (argStays Try.readBytes Try.rowBytes h2 hg (fun x hx => hbl x (by simp [hx])) (fun x hx => hsp x (by simp [hx]))) trodAll_mk0)))) (fun _ _ => rfl) (by simp)
    hg (ok_one (by kernel_rfl) rfl (okWide_bool_mk Try.underlying4 _))⟩

theorem over : Rows.fmLongerRow.holds Try.pinned (OpenSpec.ofChange Rows.fmLongerSpec) :=
  OpenClaim.holds_of_wide 5 Try.f5 rfl rfl rfl rfl rfl rfl rfl ⟨rfl, rfl, rfl, rfl, rfl⟩ rfl rfl rfl rfl rfl (by kernel_rfl) Try.func5 (by kernel_rfl)
    (of_decide_eq_true (by kernel_rfl)) (by unfold Func.isWrapper; first | (rw [if_pos (by decide +kernel)]; kernel_rfl) | (rw [if_neg (by decide +kernel)]; exact ⟨rfl, rfl⟩))
    (fun os started H enc _ => lifted os started H enc)

theorem proved : Rows.FmLongerSaid := over
#print axioms proved
end Go.Proofs.Ythgnapngjmgkcaa.fmLonger
