import Derived.OrdersHeld
import Derived.Deep.Quiet
import Derived.StillTail
import Derived.Tactics
import Derived.WalkKit
import Derived.Shelf.Abstract
/- A region that draws its order: what only looks is taken first, in the text's order, under a fact S that stands till the gate (the first of the last stores); what is left comes in one order. One goal. No program. -/
namespace Go.Proofs.Ythgnapngjmgkcaa
open Go

section
variable {P : Program} {ops : Array Oper} {Q : Exit → Act → World → Prop} {md : Region.Mode} {S : World → Prop} {g : Nat}

/-- whatever order; S holds as long as the gate has not come up -/
def wpAnyG (P : Program) (md : Region.Mode) (ops : Array Oper) (Q : Exit → Act → World → Prop) (S : World → Prop) (g : Nat) : Nat → Array Bool → Act → World → Prop
  | 0, listed, a, w => Region.ready md ops listed = [] ∧ Q .normal a w
  | fuel + 1, listed, a, w =>
    (Region.ready md ops listed = [] → Q .normal a w) ∧
    ∀ i ∈ Region.ready md ops listed, wpOp P ops Q i (fun a' w' => ((listed.setIfInBounds i true).getD g true = false → S w') ∧ wpAnyG P md ops Q S g fuel (listed.setIfInBounds i true) a' w') a w

theorem wpAny_of_G : ∀ (fuel : Nat) (listed : Array Bool) (a : Act) (w : World), wpAnyG P md ops Q S g fuel listed a w → wpAny P md ops Q fuel listed a w
  | 0, _, _, _, h => h
  | fuel + 1, _, _, _, h => ⟨h.1, fun i hi => wpOp_mono (fun a' w' h' => wpAny_of_G fuel _ a' w' h'.2) (h.2 i hi)⟩

theorem gate_stays {listed : Array Bool} {i : Nat} (h : listed.getD g true = true) : (listed.setIfInBounds i true).getD g true = true := by
  by_cases e : i = g
  · subst e
    by_cases hi : i < listed.size
    · simp [hi]
    · simp [Array.getElem?_eq_none (Nat.le_of_not_lt hi)]
  · rw [getD_set_ne true e]; exact h

theorem wpAnyG_of_any : ∀ (fuel : Nat) (listed : Array Bool) (a : Act) (w : World), listed.getD g true = true → wpAny P md ops Q fuel listed a w → wpAnyG P md ops Q S g fuel listed a w
  | 0, _, _, _, _, h => h
  | fuel + 1, listed, _, _, hg, h => ⟨h.1, fun i hi => wpOp_mono (fun a' w' h' => ⟨fun hn => absurd hn (by rw [gate_stays hg]; simp), wpAnyG_of_any fuel _ a' w' (gate_stays hg) h'⟩) (h.2 i hi)⟩

theorem wpAnyG_first {i : Nat} {oi og : Oper} {v : Value} (hi : ops[i]? = some oi) (hsel : ∀ (j : Nat) (o : Oper) cs b, ops[j]? = some o → o.op ≠ .select cs b)
    (hQ : ∀ c a w, Q (.panic c) (a.put oi.dst v) w → Q (.panic c) a w) (hog : ops[g]? = some og) (hgi : g ≠ i) (hgw : ∃ e ∈ og.after, Region.binds md e = true ∧ e.on = i) :
    ∀ (fuel : Nat) (listed : Array Bool) (a : Act) (w : World),
      (∀ j oj, ops[j]? = some oj → j ≠ i → listed.getD j true = false → (∀ e ∈ oj.after, Region.binds md e = true → e.on ≠ i) → oi.apart ops oj = true) →
      i ∈ Region.ready md ops listed → listed.getD g true = false → YieldsIf P ops S oi v a → S w →
      wpAnyG P md ops Q S g fuel (listed.setIfInBounds i true) (a.put oi.dst v) w → wpAnyG P md ops Q S g (fuel + 1) listed a w := by
  intro fuel
  induction fuel with
  | zero =>
    intro listed a w _ hr hg hy hS H
    refine ⟨fun h => (by rw [h] at hr; cases hr), fun j hj => ?_⟩
    by_cases hji : j = i
    · subst hji; exact hy.wpOp hi hS ⟨fun _ => hS, H⟩
    · have := ready_mono hj hji
      rw [H.1] at this
      cases this
  | succ fuel ih =>
    intro listed a w hfree hr hg hy hS H
    refine ⟨fun h => (by rw [h] at hr; cases hr), fun j hj => ?_⟩
    by_cases hji : j = i
    · subst hji; exact hy.wpOp hi hS ⟨fun _ => hS, H⟩
    · have h1 := H.2 j (ready_mono hj hji)
      obtain ⟨hjun, oj, hoj, hall⟩ := mem_ready.1 hj
      have hnot : ∀ e ∈ oj.after, Region.binds md e = true → e.on ≠ i := fun e he hb heq => by
        have h1 := hall e he hb
        have h0 := (mem_ready.1 hr).1
        rw [heq] at h1
        rcases Nat.lt_or_ge i listed.size with h' | h'
        · simp [h'] at h0 h1; rw [h0] at h1; cases h1
        · simp [Array.getElem?_eq_none h'] at h1
      have hjg : j ≠ g := fun e => by
        subst e
        rw [hoj] at hog
        cases hog
        obtain ⟨e, he, hb, hon⟩ := hgw
        exact hnot e he hb hon
      have h2 := wpOp_putIf hoj (hfree j oj hoj hji hjun hnot) (fun cs b => hsel i oi cs b hi) (fun cs b => hsel j oj cs b hoj) hQ hy h1
      have hfree' : ∀ k ok, ops[k]? = some ok → k ≠ i → (listed.setIfInBounds j true).getD k true = false →
          (∀ e ∈ ok.after, Region.binds md e = true → e.on ≠ i) → oi.apart ops ok = true := fun k ok hk hki hun hno => by
        refine hfree k ok hk hki ?_ hno
        by_cases hjk : j = k
        · subst hjk; exact hjun
        · rw [getD_set_ne true hjk] at hun; exact hun
      have hg2 : (listed.setIfInBounds j true).getD g true = false := by rw [getD_set_ne true hjg]; exact hg
      have hg3 : ((listed.setIfInBounds i true).setIfInBounds j true).getD g true = false := by rw [getD_set_ne true hjg, getD_set_ne true (Ne.symm hgi)]; exact hg
      refine wpOp_mono (fun a' w' h3 => ⟨fun _ => h3.2.1 hg3, ih (listed.setIfInBounds j true) a' w' hfree' (ready_mono hr (Ne.symm hji)) hg2 h3.1 (h3.2.1 hg3) ?_⟩) h2
      rw [Array.setIfInBounds_comm _ _ hji]
      exact h3.2.2

/-- an operation that looks or reckons, and calls nothing -/
def softOp : Op → Bool
  | .move _ | .assign _ | .load _ _ | .nilCheck _ | .binOp _ _ _ _ _ | .unOp _ _ _ | .field _ _ _ | .fieldAddr _ _ _ | .indexAddr _ _ _ | .index _ _ _ | .build _ _ | .slice _ _ _ _ _ => true
  | .call c => match c.callee with
    | .builtin .len => true
    | _ => false
  | _ => false

theorem value_bind (s : Sem Value) (P : Program) (w w' : World) (n : Next) (h : (do pure (Next.value (← s)) : Sem Next).run P w = .ok n w') : ∃ u, n = .value u := by
  rw [Sem.run_bind] at h
  cases hs : s.run P w with
  | ok a w1 => rw [hs] at h; simp at h; exact ⟨a, h.1.symm⟩
  | halt x w1 => rw [hs] at h; simp [Result.andThen] at h

theorem soft_value {o : Oper} (h : softOp o.op = true) (ρ : Operand → Value) (w w' : World) (n : Next) (hr : (execOp ρ o).run P w = .ok n w') : ∃ u, n = .value u := by
  obtain ⟨dst, op, ty, pos, after, guard⟩ := o
  cases op <;> first | (simp [softOp] at h; done) | exact value_bind _ _ _ _ _ hr | skip
  case call c =>
    obtain ⟨callee, args, types⟩ := c
    simp only [softOp] at h
    cases callee with
    | builtin b =>
      cases b <;> first | (simp at h; done) | skip
      unfold execOp resolve at hr
      simp only [Sem.run_bind, Sem.run_pure, Result.andThen_ok, invoke, builtin] at hr
      generalize Sem.run P (Builtin.len_ types ty (Array.map ρ args)) w = r at hr
      cases r with
      | ok a w1 => simp [Result.andThen] at hr; exact ⟨a, hr.1.symm⟩
      | halt x w1 => simp [Result.andThen] at hr
    | _ => simp at h
  all_goals unfold execOp at hr
  all_goals simp only at hr
  all_goals first | (simp at hr; exact ⟨_, hr.1.symm⟩) | skip
  · split at hr
    all_goals first | (simp [runtimePanic] at hr; done) | (simp at hr; exact ⟨_, hr.1.symm⟩) | skip
    split at hr
    · simp [runtimePanic] at hr
    · rename_i t u _
      simp only [Sem.run_bind] at hr
      cases hp : program.run P w with
      | halt h w1 => rw [hp] at hr; simp [Result.andThen] at hr
      | ok p w1 =>
        rw [hp] at hr
        simp only [Result.andThen_ok] at hr
        generalize hnn : (nilAhead (p.types.size + Made.depth) t u _).run P w1 = rr at hr
        cases rr with
        | halt h w2 => simp [Result.andThen] at hr
        | ok b w2 =>
          simp only [Result.andThen_ok] at hr
          split at hr
          · rw [Sem.run_bind] at hr
            generalize Sem.run P (unsupported _) w2 = r3 at hr
            cases r3 with
            | halt h w3 => simp [Result.andThen] at hr
            | ok b w3 => simp at hr; exact ⟨_, hr.1.symm⟩
          · simp at hr; exact ⟨_, hr.1.symm⟩
    · simp at hr; exact ⟨_, hr.1.symm⟩

/-- a world that meets S -/
structure Meet (S : World → Prop) where
  val : World
  prop : S val

theorem soft_step {o : Oper} {a : Act} {K : Act → Prop} (hs : softOp o.op = true)
    (h : if Region.wanted o (yielded ops a.tmps) then o.quiet P a (fun w' => ∃ x : Meet S, w' = x.val) K else K (a.put o.dst undef)) : ∃ v, YieldsIf P ops S o v a ∧ K (a.put o.dst v) := by
  by_cases hw : Region.wanted o (yielded ops a.tmps) = true
  · rw [if_pos hw] at h
    obtain ⟨v, hv, hk⟩ := h
    refine ⟨v, .inl ⟨hw, fun w hS => ?_⟩, hk⟩
    have h1 := hv w ⟨⟨w, hS⟩, rfl⟩
    unfold Oper.quietAt at h1
    cases hr : (execOp a.eval o).run P w with
    | halt x w1 => rw [hr] at h1; exact h1.elim
    | ok n w1 =>
      obtain ⟨u, rfl⟩ := soft_value hs _ _ _ _ hr
      rw [hr] at h1
      obtain ⟨e1, e2⟩ := h1
      rw [e1, e2]
  · rw [if_neg hw] at h
    exact ⟨undef, .inr ⟨by simpa using hw, rfl⟩, h⟩

def selM : List Bool → List Oper → List Oper
  | true :: m, o :: l => o :: selM m l
  | false :: m, _ :: l => selM m l
  | _, _ => []
def markM : List Bool → Nat → Array Bool → Array Bool
  | [], _, listed => listed
  | true :: m, k, listed => markM m (k + 1) (listed.setIfInBounds k true)
  | false :: m, k, listed => markM m (k + 1) listed
def cntT : List Bool → Nat
  | [] => 0
  | true :: m => cntT m + 1
  | false :: m => cntT m
def softB (md : Region.Mode) (ops : Array Oper) (g : Nat) : List Bool → Nat → Array Bool → Bool
  | [], _, _ => true
  | true :: m, k, listed => (Region.ready md ops listed).contains k && Region.free md ops listed k && (match ops[g]? with | some og => og.after.any (fun e => Region.binds md e && e.on == k) | none => false) &&
      g != k && !listed.getD g true && (match ops[k]? with | some o => softOp o.op | none => false) && softB md ops g m (k + 1) (listed.setIfInBounds k true)
  | false :: m, k, listed => softB md ops g m (k + 1) listed
def forcedB (md : Region.Mode) (ops : Array Oper) : List Bool → Nat → Array Bool → Bool
  | [], _, _ => true
  | true :: m, k, listed => (Region.ready md ops listed == [k]) && forcedB md ops m (k + 1) (listed.setIfInBounds k true)
  | false :: m, k, listed => forcedB md ops m (k + 1) listed

theorem wpQuiet_mono {C : World → Prop} {K K' : Act → Prop} (hK : ∀ a, K a → K' a) : ∀ {l : List Oper} {a : Act}, wpQuiet P ops C K l a → wpQuiet P ops C K' l a
  | [], _, h => hK _ h
  | o :: l, a, h => by
    unfold wpQuiet at *
    split
    · rename_i hw; rw [if_pos hw] at h; exact Oper.quiet_mono (fun _ h => wpQuiet_mono hK h) h
    · rename_i hw; rw [if_neg hw] at h; exact wpQuiet_mono hK h

theorem softs (hsel : Region.noSelect ops = true) (hQ : ∀ c (a : Act) (d : Option Tmp) (v : Value) w, Q (.panic c) (a.put d v) w → Q (.panic c) a w) {fuel : Nat} {w : World} (hS : S w) :
    ∀ (m : List Bool) (l : List Oper) (k : Nat) (listed : Array Bool) (a : Act), (∀ j, l[j]? = ops[k + j]?) → softB md ops g m k listed = true →
      wpQuiet P ops (fun w' => ∃ x : Meet S, w' = x.val) (fun a' => wpAnyG P md ops Q S g fuel (markM m k listed) a' w) (selM m l) a → wpAnyG P md ops Q S g (cntT m + fuel) listed a w
  | [], l, k, listed, a, _, _, h => by
    cases l <;> simpa [selM, markM, cntT, wpQuiet] using h
  | false :: m, [], k, listed, a, hl, hB, h => by
    simp only [cntT]
    refine softs hsel hQ hS m [] (k + 1) listed a (fun j => by have := hl (j + 1); simpa [Nat.add_assoc, Nat.add_comm 1 j] using this) hB ?_
    have : selM m [] = [] := by cases m with | nil => rfl | cons b m => cases b <;> rfl
    rw [this]
    exact h
  | false :: m, o :: l, k, listed, a, hl, hB, h => by
    simp only [cntT]
    exact softs hsel hQ hS m l (k + 1) listed a (fun j => by have := hl (j + 1); simpa [Nat.add_assoc, Nat.add_comm 1 j] using this) hB h
  | true :: m, [], k, listed, a, hl, hB, h => by
    have h0 := hl 0
    simp only [softB, Bool.and_eq_true] at hB
    rw [Nat.add_zero, List.getElem?_nil] at h0
    rw [← h0] at hB
    simp at hB
  | true :: m, o :: l, k, listed, a, hl, hB, h => by
    have h0 : ops[k]? = some o := by simpa using (hl 0).symm
    simp only [softB, Bool.and_eq_true, h0] at hB
    obtain ⟨⟨⟨⟨⟨⟨hr, hf⟩, hg⟩, hgk⟩, hgl⟩, hs⟩, hB'⟩ := hB
    obtain ⟨v, hy, hK⟩ := soft_step hs (show if Region.wanted o (yielded ops a.tmps) then o.quiet P a (fun w' => ∃ x : Meet S, w' = x.val) (wpQuiet P ops (fun w' => ∃ x : Meet S, w' = x.val) (fun a' => wpAnyG P md ops Q S g fuel (markM m (k + 1) (listed.setIfInBounds k true)) a' w) (selM m l)) else _ from h)
    cases hog : ops[g]? with
    | none => rw [hog] at hg; cases hg
    | some og =>
      rw [hog] at hg
      obtain ⟨e, he, hb⟩ := Array.any_eq_true'.1 hg
      simp only [Bool.and_eq_true, beq_iff_eq] at hb
      have := wpAnyG_first (g := g) h0 (Region.noSelect_spec hsel) (fun c a w => hQ c a _ _ w) hog (by simpa using hgk) ⟨e, he, hb⟩ (cntT m + fuel) listed a w (Region.free_spec h0 hf) (by simpa using hr) (by simpa using hgl) hy hS
        (softs hsel hQ hS m l (k + 1) _ _ (fun j => by have := hl (j + 1); simpa [Nat.add_assoc, Nat.add_comm 1 j] using this) hB' hK)
      rw [show cntT (true :: m) + fuel = cntT m + fuel + 1 by simp only [cntT]; omega]
      exact this

/-- Q, but K at the end -/
def mid (Q : Exit → Act → World → Prop) (K : Act → World → Prop) : Exit → Act → World → Prop
  | .normal, a, w => K a w
  | e, a, w => Q e a w
/-- the operations between, one at a time; behind each S is shown anew -/
def wpPre (P : Program) (ops : Array Oper) (Q : Exit → Act → World → Prop) (S : World → Prop) (K : Act → World → Prop) : List Oper → Act → World → Prop
  | [], a, w => K a w
  | o :: rest, a, w => wpList P ops (mid Q fun a' w' => S w' ∧ wpPre P ops Q S K rest a' w') [o] a w

theorem out_mid {K : Act → World → Prop} (h : LetsOut (mid Q K)) : LetsOut Q := h
theorem op_mid {o : Oper} {a : Act} {w : World} {K K' : Act → World → Prop} (h : o.wp P a w K (mid Q K')) : o.wp P a w K Q := by
  unfold Oper.wp at *
  generalize (execOp a.eval o).run P w = r at *
  cases r with
  | ok n w1 =>
    cases n with
    | value v => exact h
    | skip => exact h
    | defer d => exact h
    | enter f args =>
      refine Calls.mono h fun e w2 he => ?_
      cases e with
      | returned v => exact he
      | panicked c => exact he
      | outgrown => exact he
    | row r args => exact h
    | _ => exact h
  | halt x w1 =>
    cases x with
    | panic v => exact h
    | _ => exact h

theorem step_of_list {o : Oper} {i : Nat} (hi : ops[i]? = some o) {a : Act} {w : World} {K : Act → World → Prop} (h : wpList P ops (mid Q K) [o] a w) : wpOp P ops Q i K a w := by
  unfold wpList at h
  unfold wpOp
  simp only [hi]
  split
  · rename_i hw
    rw [if_pos hw] at h
    exact h.imp (fun h => op_mid h) fun h => ⟨h.1, out_mid h.2⟩
  · rename_i hw
    rw [if_neg hw] at h
    exact h

theorem pres {K : Act → World → Prop} {fuel : Nat} : ∀ (m : List Bool) (l : List Oper) (k : Nat) (listed : Array Bool) (a : Act) (w : World), (∀ j, l[j]? = ops[k + j]?) → forcedB md ops m k listed = true →
      (∀ a w, K a w → wpAnyG P md ops Q S g fuel (markM m k listed) a w) → wpPre P ops Q S K (selM m l) a w → wpAnyG P md ops Q S g (cntT m + fuel) listed a w
  | [], l, k, listed, a, w, _, _, hK, h => by
    cases l <;> (simp only [cntT, Nat.zero_add]; exact hK _ _ h)
  | false :: m, [], k, listed, a, w, hl, hB, hK, h => by
    simp only [cntT]
    refine pres m [] (k + 1) listed a w (fun j => by have := hl (j + 1); simpa [Nat.add_assoc, Nat.add_comm 1 j] using this) hB hK ?_
    have : selM m [] = [] := by cases m with | nil => rfl | cons b m => cases b <;> rfl
    rw [this]
    exact h
  | false :: m, o :: l, k, listed, a, w, hl, hB, hK, h => by
    simp only [cntT]
    exact pres m l (k + 1) listed a w (fun j => by have := hl (j + 1); simpa [Nat.add_assoc, Nat.add_comm 1 j] using this) hB hK h
  | true :: m, [], k, listed, a, w, hl, hB, hK, h => by
    have h0 := hl 0
    simp only [forcedB, Bool.and_eq_true, beq_iff_eq] at hB
    have : k ∈ Region.ready md ops listed := by rw [hB.1]; simp
    obtain ⟨_, o, ho, _⟩ := mem_ready.1 this
    rw [Nat.add_zero, ho] at h0
    simp at h0
  | true :: m, o :: l, k, listed, a, w, hl, hB, hK, h => by
    have h0 : ops[k]? = some o := by simpa using (hl 0).symm
    simp only [forcedB, Bool.and_eq_true, beq_iff_eq] at hB
    obtain ⟨hr, hB'⟩ := hB
    rw [show cntT (true :: m) + fuel = cntT m + fuel + 1 by simp only [cntT]; omega]
    refine ⟨fun e => absurd e (by rw [hr]; simp), fun i hi => ?_⟩
    rw [hr, List.mem_singleton] at hi
    obtain rfl := hi
    exact wpOp_mono (fun a' w' h' => ⟨fun _ => h'.1, pres m l (i + 1) _ a' w' (fun j => by have := hl (j + 1); simpa [Nat.add_assoc, Nat.add_comm 1 j] using this) hB' hK h'.2⟩) (step_of_list h0 h)

theorem wpList_cons_op {o : Oper} {rest : List Oper} {i : Nat} (hi : ops[i]? = some o) {a : Act} {w : World} (h : wpList P ops Q (o :: rest) a w) : wpOp P ops Q i (wpList P ops Q rest) a w := by
  unfold wpList at h
  unfold wpOp
  simp only [hi]
  exact h

theorem posts : ∀ (m : List Bool) (l : List Oper) (k : Nat) (listed : Array Bool) (a : Act) (w : World), (∀ j, l[j]? = ops[k + j]?) → forcedB md ops m k listed = true → Region.ready md ops (markM m k listed) = [] →
      wpList P ops Q (selM m l) a w → wpAny P md ops Q (cntT m) listed a w
  | [], l, k, listed, a, w, _, _, hr, h => by
    cases l <;> exact ⟨hr, h⟩
  | false :: m, [], k, listed, a, w, hl, hB, hr, h => by
    simp only [cntT]
    refine posts m [] (k + 1) listed a w (fun j => by have := hl (j + 1); simpa [Nat.add_assoc, Nat.add_comm 1 j] using this) hB hr ?_
    have : selM m [] = [] := by cases m with | nil => rfl | cons b m => cases b <;> rfl
    rw [this]
    exact h
  | false :: m, o :: l, k, listed, a, w, hl, hB, hr, h => by
    simp only [cntT]
    exact posts m l (k + 1) listed a w (fun j => by have := hl (j + 1); simpa [Nat.add_assoc, Nat.add_comm 1 j] using this) hB hr h
  | true :: m, [], k, listed, a, w, hl, hB, _, h => by
    have h0 := hl 0
    simp only [forcedB, Bool.and_eq_true, beq_iff_eq] at hB
    have : k ∈ Region.ready md ops listed := by rw [hB.1]; simp
    obtain ⟨_, o, ho, _⟩ := mem_ready.1 this
    rw [Nat.add_zero, ho] at h0
    simp at h0
  | true :: m, o :: l, k, listed, a, w, hl, hB, hrd, h => by
    have h0 : ops[k]? = some o := by simpa using (hl 0).symm
    simp only [forcedB, Bool.and_eq_true, beq_iff_eq] at hB
    obtain ⟨hr, hB'⟩ := hB
    simp only [cntT]
    refine ⟨fun e => absurd e (by rw [hr]; simp), fun i hi => ?_⟩
    rw [hr, List.mem_singleton] at hi
    subst hi
    exact wpOp_mono (fun a' w' h' => posts m l (i + 1) _ a' w' (fun j => by have := hl (j + 1); simpa [Nat.add_assoc, Nat.add_comm 1 j] using this) hB' hrd h') (wpList_cons_op h0 h)

/-- all the closed conditions; the gate is the first of 'post' -/
def gateOf : List Bool → Nat → Nat
  | [], k => k
  | true :: _, k => k
  | false :: m, k => gateOf m (k + 1)
def mixB (md : Region.Mode) (ops : Array Oper) (ms mp mq : List Bool) : Bool :=
  Region.noSelect ops && softB md ops (gateOf mq 0) ms 0 (Array.replicate ops.size false) && forcedB md ops mp 0 (markM ms 0 (Array.replicate ops.size false)) &&
    forcedB md ops mq 0 (markM mp 0 (markM ms 0 (Array.replicate ops.size false))) && (Region.ready md ops (markM mq 0 (markM mp 0 (markM ms 0 (Array.replicate ops.size false))))).isEmpty &&
    (cntT ms + (cntT mp + cntT mq) == ops.size) && (0 < cntT mq)

theorem post_head : ∀ (m : List Bool) (k : Nat) (listed : Array Bool), forcedB md ops m k listed = true → 0 < cntT m → Region.ready md ops listed = [gateOf m k]
  | [], _, _, _, h => by simp [cntT] at h
  | true :: m, k, listed, hB, _ => by
    simp only [forcedB, Bool.and_eq_true, beq_iff_eq] at hB
    exact hB.1
  | false :: m, k, listed, hB, h => post_head m (k + 1) listed hB h

/-- **THE LAW**: 'ms' what looks, 'mp' what comes between, 'mq' what comes last. -/
theorem wp_region_mix {id : Nat} {a : Act} {w : World} {l : List Oper} (S : World → Prop) (ms mp mq : List Bool) (hm : P.follows .mixedOrders = true) (hB : mixB .any l.toArray ms mp mq = true)
    (hS : S w.drew) (hQ : ∀ c (a : Act) (d : Option Tmp) (v : Value) w, Q (.panic c) (a.put d v) w → Q (.panic c) a w)
    (h : wpQuiet P l.toArray (fun w' => ∃ x : Meet S, w' = x.val) (fun a' => wpPre P l.toArray Q S (fun a'' w'' => wpList P l.toArray Q (selM mq l) a'' w'') (selM mp l) a' w.drew) (selM ms l) a) :
    (Code.region id l.toArray true).wp P Q a w := by
  simp only [mixB, Bool.and_eq_true, beq_iff_eq, decide_eq_true_eq, List.isEmpty_iff] at hB
  obtain ⟨⟨⟨⟨⟨⟨hsel, hs⟩, hp⟩, hq⟩, hend⟩, hn⟩, hpos⟩ := hB
  have hl : ∀ j, l[j]? = l.toArray[0 + j]? := fun j => by simp
  refine wp_region_any hm (wpAny_of_G (S := S) (g := gateOf mq 0) _ _ _ _ ?_)
  suffices main : wpAnyG P .any l.toArray Q S (gateOf mq 0) (cntT ms + (cntT mp + cntT mq)) (Array.replicate l.toArray.size false) a w.drew by
    rw [hn] at main
    exact main
  refine softs hsel hQ hS ms l 0 _ a hl hs ?_
  refine wpQuiet_mono ?_ h
  intro a' hpre
  refine pres mp l 0 _ a' w.drew hl hp ?_ hpre
  intro a'' w'' hpost
  have hr := post_head mq 0 _ hq hpos
  have hg : gateOf mq 0 ∈ Region.ready .any l.toArray (markM mp 0 (markM ms 0 (Array.replicate l.toArray.size false))) := by rw [hr]; simp
  have hlast := posts (P := P) (Q := Q) mq l 0 _ a'' w'' hl hq hend hpost
  generalize markM mp 0 (markM ms 0 (Array.replicate l.toArray.size false)) = listed at hr hg hlast ⊢
  obtain ⟨hgf, _⟩ := mem_ready.1 hg
  cases hc : cntT mq with
  | zero => omega
  | succ n =>
    rw [hc] at hlast
    refine ⟨hlast.1, fun i hi => ?_⟩
    rw [hr, List.mem_singleton] at hi
    subst hi
    have hset : (listed.setIfInBounds (gateOf mq 0) true).getD (gateOf mq 0) true = true := by
      by_cases hlt : gateOf mq 0 < listed.size
      · simp [hlt]
      · rw [Array.getD_eq_getD_getElem?, Array.getElem?_eq_none (by simp; omega)]; rfl
    exact wpOp_mono (fun a' w' h' => ⟨fun e => absurd e (by rw [hset]; simp), wpAnyG_of_any _ _ _ _ hset h'⟩) (hlast.2 _ hg)
theorem mid_normal {K : Act → World → Prop} {a : Act} {w : World} (h : K a w) : mid Q K .normal a w := h
theorem pre_nil {K : Act → World → Prop} {a : Act} {w : World} (h : K a w) : wpPre P ops Q S K [] a w := h
theorem pre_cons {K : Act → World → Prop} {a : Act} {w : World} {o : Oper} {rest : List Oper} (h : wpList P ops (mid Q fun a' w' => S w' ∧ wpPre P ops Q S K rest a' w') [o] a w) : wpPre P ops Q S K (o :: rest) a w := h
theorem meets_ne {S : World → Prop} {w : World} (h : S w) : Nonempty (Meet S) := ⟨⟨w, h⟩⟩
/-- some cells are as they were -/
def Cells1 (a : Addr) (u : Value) (w : World) : Prop := w.cell? a = some u
def Cells2 (a b : Addr) (u v : Value) (w : World) : Prop := w.cell? a = some u ∧ w.cell? b = some v
def Cells3 (a b c : Addr) (u v x : Value) (w : World) : Prop := w.cell? a = some u ∧ w.cell? b = some v ∧ w.cell? c = some x
def Cells4 (a b c d : Addr) (u v x y : Value) (w : World) : Prop := w.cell? a = some u ∧ w.cell? b = some v ∧ w.cell? c = some x ∧ w.cell? d = some y
theorem Cells1.e1 {a : Addr} {u : Value} : ∀ x : Meet (Cells1 a u), x.val.cell? a = some u := fun x => x.prop
theorem Cells2.e1 {a b : Addr} {u v : Value} : ∀ x : Meet (Cells2 a b u v), x.val.cell? a = some u := fun x => x.prop.1
theorem Cells2.e2 {a b : Addr} {u v : Value} : ∀ x : Meet (Cells2 a b u v), x.val.cell? b = some v := fun x => x.prop.2
theorem Cells3.e1 {a b c : Addr} {u v y : Value} : ∀ x : Meet (Cells3 a b c u v y), x.val.cell? a = some u := fun x => x.prop.1
theorem Cells3.e2 {a b c : Addr} {u v y : Value} : ∀ x : Meet (Cells3 a b c u v y), x.val.cell? b = some v := fun x => x.prop.2.1
theorem Cells3.e3 {a b c : Addr} {u v y : Value} : ∀ x : Meet (Cells3 a b c u v y), x.val.cell? c = some y := fun x => x.prop.2.2
theorem Cells4.e1 {a b c d : Addr} {u v y z : Value} : ∀ x : Meet (Cells4 a b c d u v y z), x.val.cell? a = some u := fun x => x.prop.1
theorem Cells4.e2 {a b c d : Addr} {u v y z : Value} : ∀ x : Meet (Cells4 a b c d u v y z), x.val.cell? b = some v := fun x => x.prop.2.1
theorem Cells4.e3 {a b c d : Addr} {u v y z : Value} : ∀ x : Meet (Cells4 a b c d u v y z), x.val.cell? c = some y := fun x => x.prop.2.2.1
theorem Cells4.e4 {a b c d : Addr} {u v y z : Value} : ∀ x : Meet (Cells4 a b c d u v y z), x.val.cell? d = some z := fun x => x.prop.2.2.2
end
end Go.Proofs.Ythgnapngjmgkcaa
