import Derived.Test.YthgnapngjmgkcaaStage
/- A region that draws its order, in stages, where the last operation stands behind what looks by a chain of others. No program. -/
namespace Go.Proofs.Ythgnapngjmgkcaa
open Go

section
variable {P : Program} {ops : Array Oper} {Q : Exit → Act → World → Prop} {md : Region.Mode} {S : World → Prop} {g : Nat}

theorem getD_set_self {listed : Array Bool} {i j : Nat} (hij : i ≠ j) (h : listed.getD j true = false) : (listed.setIfInBounds i true).getD j true = false := by rw [getD_set_ne true hij]; exact h

theorem wpAnyG_chain {i : Nat} {oi : Oper} {v : Value} (D : List Nat) (hi : ops[i]? = some oi) (hsel : ∀ (j : Nat) (o : Oper) cs b, ops[j]? = some o → o.op ≠ .select cs b)
    (hQ : ∀ c a w, Q (.panic c) (a.put oi.dst v) w → Q (.panic c) a w) (hgD : g ∈ D) (hiD : i ∉ D) (hD : ∀ p ∈ D, ∀ o, ops[p]? = some o → ∃ e ∈ o.after, Region.binds md e = true ∧ (e.on = i ∨ e.on ∈ D)) :
    ∀ (fuel : Nat) (listed : Array Bool) (a : Act) (w : World),
      (∀ j oj, ops[j]? = some oj → j ≠ i → listed.getD j true = false → (∀ e ∈ oj.after, Region.binds md e = true → e.on ≠ i) → oi.apart ops oj = true) →
      i ∈ Region.ready md ops listed → (∀ p ∈ D, listed.getD p true = false) → YieldsIf P ops S oi v a → S w →
      wpAnyG P md ops Q S g fuel (listed.setIfInBounds i true) (a.put oi.dst v) w → wpAnyG P md ops Q S g (fuel + 1) listed a w := by
  intro fuel
  induction fuel with
  | zero =>
    intro listed a w _ hr hg hy hS H
    refine ⟨fun h => (by rw [h] at hr; cases hr), fun j hj => ?_⟩
    by_cases hji : j = i
    · subst hji; exact hy.wpOp hi hS ⟨fun _ => hS, H⟩
    · have := ready_mono hj hji
      rw [H.1] at this
      cases this
  | succ fuel ih =>
    intro listed a w hfree hr hg hy hS H
    refine ⟨fun h => (by rw [h] at hr; cases hr), fun j hj => ?_⟩
    by_cases hji : j = i
    · subst hji; exact hy.wpOp hi hS ⟨fun _ => hS, H⟩
    · have h1 := H.2 j (ready_mono hj hji)
      obtain ⟨hjun, oj, hoj, hall⟩ := mem_ready.1 hj
      have hoff : ∀ q, listed.getD q true = false → ∀ e ∈ oj.after, Region.binds md e = true → e.on ≠ q := fun q hq e he hb heq => by
        have h1 := hall e he hb
        rw [heq] at h1
        rcases Nat.lt_or_ge q listed.size with h' | h'
        · simp [h'] at hq h1; rw [hq] at h1; cases h1
        · simp [Array.getElem?_eq_none h'] at h1
      have hnot := hoff i (mem_ready.1 hr).1
      have hjD : j ∉ D := fun hjD => by
        obtain ⟨e, he, hb, hon⟩ := hD j hjD oj hoj
        rcases hon with hon | hon
        · exact hnot e he hb hon
        · exact hoff e.on (hg _ hon) e he hb rfl
      have hjg : j ≠ g := fun e => hjD (e ▸ hgD)
      have hgi : g ≠ i := fun e => hiD (e ▸ hgD)
      have h2 := wpOp_putIf hoj (hfree j oj hoj hji hjun hnot) (fun cs b => hsel i oi cs b hi) (fun cs b => hsel j oj cs b hoj) hQ hy h1
      have hfree' : ∀ k ok, ops[k]? = some ok → k ≠ i → (listed.setIfInBounds j true).getD k true = false →
          (∀ e ∈ ok.after, Region.binds md e = true → e.on ≠ i) → oi.apart ops ok = true := fun k ok hk hki hun hno => by
        refine hfree k ok hk hki ?_ hno
        by_cases hjk : j = k
        · subst hjk; exact hjun
        · rw [getD_set_ne true hjk] at hun; exact hun
      have hg2 : ∀ p ∈ D, (listed.setIfInBounds j true).getD p true = false := fun p hp => getD_set_self (fun e => hjD (e ▸ hp)) (hg p hp)
      have hg3 : ((listed.setIfInBounds i true).setIfInBounds j true).getD g true = false := by rw [getD_set_ne true hjg, getD_set_ne true (Ne.symm hgi)]; exact hg g hgD
      refine wpOp_mono (fun a' w' h3 => ⟨fun _ => h3.2.1 hg3, ih (listed.setIfInBounds j true) a' w' hfree' (ready_mono hr (Ne.symm hji)) hg2 h3.1 (h3.2.1 hg3) ?_⟩) h2
      rw [Array.setIfInBounds_comm _ _ hji]
      exact h3.2.2

/-- what stands behind operation k, by edges that bind -/
def behind (md : Region.Mode) (k : Nat) : List Oper → Nat → List Nat → List Nat
  | [], _, D => D
  | o :: l, j, D => behind md k l (j + 1) (if o.after.any (fun e => Region.binds md e && (e.on == k || D.contains e.on)) then j :: D else D)
def softC (md : Region.Mode) (ops : Array Oper) (g : Nat) : List Bool → Nat → Array Bool → Bool
  | [], _, _ => true
  | true :: m, k, listed => (Region.ready md ops listed).contains k && Region.free md ops listed k &&
      ((behind md k ops.toList 0 []).contains g && !(behind md k ops.toList 0 []).contains k && (behind md k ops.toList 0 []).all (fun p => !listed.getD p true && (match ops[p]? with | some o => o.after.any (fun e => Region.binds md e && (e.on == k || (behind md k ops.toList 0 []).contains e.on)) | none => true))) &&
      (match ops[k]? with | some o => softOp o.op | none => false) && softC md ops g m (k + 1) (listed.setIfInBounds k true)
  | false :: m, k, listed => softC md ops g m (k + 1) listed

theorem softsC (hsel : Region.noSelect ops = true) (hQ : ∀ c (a : Act) (d : Option Tmp) (v : Value) w, Q (.panic c) (a.put d v) w → Q (.panic c) a w) {fuel : Nat} {w : World} (hS : S w) :
    ∀ (m : List Bool) (l : List Oper) (k : Nat) (listed : Array Bool) (a : Act), (∀ j, l[j]? = ops[k + j]?) → softC md ops g m k listed = true →
      wpQuiet P ops (fun w' => ∃ x : Meet S, w' = x.val) (fun a' => wpAnyG P md ops Q S g fuel (markM m k listed) a' w) (selM m l) a → wpAnyG P md ops Q S g (cntT m + fuel) listed a w
  | [], l, k, listed, a, _, _, h => by
    cases l <;> simpa [selM, markM, cntT, wpQuiet] using h
  | false :: m, [], k, listed, a, hl, hB, h => by
    simp only [cntT]
    refine softsC hsel hQ hS m [] (k + 1) listed a (fun j => by have := hl (j + 1); simpa [Nat.add_assoc, Nat.add_comm 1 j] using this) hB ?_
    have : selM m [] = [] := by cases m with | nil => rfl | cons b m => cases b <;> rfl
    rw [this]
    exact h
  | false :: m, o :: l, k, listed, a, hl, hB, h => by
    simp only [cntT]
    exact softsC hsel hQ hS m l (k + 1) listed a (fun j => by have := hl (j + 1); simpa [Nat.add_assoc, Nat.add_comm 1 j] using this) hB h
  | true :: m, [], k, listed, a, hl, hB, h => by
    have h0 := hl 0
    simp only [softC, Bool.and_eq_true] at hB
    rw [Nat.add_zero, List.getElem?_nil] at h0
    rw [← h0] at hB
    simp at hB
  | true :: m, o :: l, k, listed, a, hl, hB, h => by
    have h0 : ops[k]? = some o := by simpa using (hl 0).symm
    simp only [softC, Bool.and_eq_true, h0] at hB
    obtain ⟨⟨⟨⟨hr, hf⟩, ⟨hgD, hkD⟩, hD⟩, hs⟩, hB'⟩ := hB
    obtain ⟨v, hy, hK⟩ := soft_step hs (show if Region.wanted o (yielded ops a.tmps) then o.quiet P a (fun w' => ∃ x : Meet S, w' = x.val) (wpQuiet P ops (fun w' => ∃ x : Meet S, w' = x.val) (fun a' => wpAnyG P md ops Q S g fuel (markM m (k + 1) (listed.setIfInBounds k true)) a' w) (selM m l)) else _ from h)
    generalize behind md k ops.toList 0 [] = D at hgD hkD hD
    have hD' := List.all_eq_true.1 hD
    have := wpAnyG_chain (g := g) D h0 (Region.noSelect_spec hsel) (fun c a w => hQ c a _ _ w) (by simpa using hgD) (by simpa using hkD) (fun p hp op hop => by
        have := hD' p hp
        simp only [Bool.and_eq_true, hop] at this
        obtain ⟨e, he, hb⟩ := Array.any_eq_true'.1 this.2
        simp only [Bool.and_eq_true, Bool.or_eq_true, beq_iff_eq, List.contains_iff_mem] at hb
        exact ⟨e, he, hb.1, hb.2⟩) (cntT m + fuel) listed a w (Region.free_spec h0 hf) (by simpa using hr) (fun p hp => by
        have := hD' p hp
        simp only [Bool.and_eq_true] at this
        simpa using this.1) hy hS
      (softsC hsel hQ hS m l (k + 1) _ _ (fun j => by have := hl (j + 1); simpa [Nat.add_assoc, Nat.add_comm 1 j] using this) hB' hK)
    rw [show cntT (true :: m) + fuel = cntT m + fuel + 1 by simp only [cntT]; omega]
    exact this

def stagesC (md : Region.Mode) (ops : Array Oper) (mq : List Bool) : List (List Bool × List Bool) → Array Bool → Bool
  | [], listed => forcedB md ops mq 0 listed && (Region.ready md ops (markM mq 0 listed)).isEmpty && decide (0 < cntT mq)
  | (ms, mp) :: r, listed => softC md ops (gateOf mq 0) ms 0 listed && forcedB md ops mp 0 (markM ms 0 listed) && stagesC md ops mq r (markM mp 0 (markM ms 0 listed))
theorem stages_chain {l : List Oper} {mq : List Bool} (hsel : Region.noSelect ops = true) (hQ : ∀ c (a : Act) (d : Option Tmp) (v : Value) w, Q (.panic c) (a.put d v) w → Q (.panic c) a w) (hl : ∀ j, l[j]? = ops[0 + j]?) :
    ∀ (r : List (List Bool × List Bool)) (listed : Array Bool) (a : Act) (w : World), stagesC md ops mq r listed = true → wpStages P ops Q S l mq r a w → wpAnyG P md ops Q S (gateOf mq 0) (cntS mq r) listed a w
  | [], listed, a, w, hB, h => stages (r := []) hsel hQ hl listed a w hB h
  | (ms, mp) :: r, listed, a, w, hB, h => by
    simp only [stagesC, Bool.and_eq_true] at hB
    obtain ⟨⟨hs, hp⟩, hB'⟩ := hB
    obtain ⟨hS, h⟩ := h
    simp only [cntS]
    refine softsC hsel hQ hS ms l 0 _ a hl hs ?_
    refine wpQuiet_mono ?_ h
    intro a' hpre
    exact pres mp l 0 _ a' w hl hp (fun a'' w'' h'' => stages_chain hsel hQ hl r _ a'' w'' hB' h'') hpre

theorem wpAny_chain {a : Act} {w : World} {l : List Oper} (S : World → Prop) (r : List (List Bool × List Bool)) (mq : List Bool) (hB : (Region.noSelect l.toArray && stagesC md l.toArray mq r (Array.replicate l.toArray.size false) && (cntS mq r == l.toArray.size)) = true)
    (hQ : ∀ c (a : Act) (d : Option Tmp) (v : Value) w, Q (.panic c) (a.put d v) w → Q (.panic c) a w) (h : wpStages P l.toArray Q S l mq r a w) :
    wpAny P md l.toArray Q l.toArray.size (Array.replicate l.toArray.size false) a w := by
  simp only [Bool.and_eq_true, beq_iff_eq] at hB
  obtain ⟨⟨hsel, hb⟩, hn⟩ := hB
  have := stages_chain (P := P) (Q := Q) (S := S) (md := md) hsel hQ (fun j => by simp) r _ a w hb h
  rw [hn] at this
  exact wpAny_of_G _ _ _ _ this
theorem wp_region_chain {id : Nat} {a : Act} {w : World} {l : List Oper} (S : World → Prop) (r : List (List Bool × List Bool)) (mq : List Bool) (hm : P.follows .mixedOrders = true)
    (hB : (Region.noSelect l.toArray && stagesC .any l.toArray mq r (Array.replicate l.toArray.size false) && (cntS mq r == l.toArray.size)) = true)
    (hQ : ∀ c (a : Act) (d : Option Tmp) (v : Value) w, Q (.panic c) (a.put d v) w → Q (.panic c) a w) (h : wpStages P l.toArray Q S l mq r a w.drew) : (Code.region id l.toArray true).wp P Q a w :=
  wp_region_any hm (wpAny_chain S r mq hB hQ h)
end
end Go.Proofs.Ythgnapngjmgkcaa
