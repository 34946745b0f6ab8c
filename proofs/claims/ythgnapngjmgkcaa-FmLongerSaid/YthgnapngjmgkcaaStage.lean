import Derived.Test.YthgnapngjmgkcaaSoft
import Derived.OrdersIn
import Derived.TacticsIn
import Derived.RangeFuncCalls
/- A region that draws its order, in stages: what only looks, then what comes in one order, again and again; the gate is the first of the last. Also in a round of a range over a function. No program. -/
namespace Go.Proofs.Ythgnapngjmgkcaa
open Go

section
variable {P : Program} {ops : Array Oper} {Q : Exit → Act → World → Prop} {md : Region.Mode} {S : World → Prop} {g : Nat}

def wpStages (P : Program) (ops : Array Oper) (Q : Exit → Act → World → Prop) (S : World → Prop) (l : List Oper) (mq : List Bool) : List (List Bool × List Bool) → Act → World → Prop
  | [], a, w => wpList P ops Q (selM mq l) a w
  | (ms, mp) :: r, a, w => S w ∧ wpQuiet P ops (fun w' => ∃ x : Meet S, w' = x.val) (fun a' => wpPre P ops Q S (wpStages P ops Q S l mq r) (selM mp l) a' w) (selM ms l) a
def stagesB (md : Region.Mode) (ops : Array Oper) (mq : List Bool) : List (List Bool × List Bool) → Array Bool → Bool
  | [], listed => forcedB md ops mq 0 listed && (Region.ready md ops (markM mq 0 listed)).isEmpty && decide (0 < cntT mq)
  | (ms, mp) :: r, listed => softB md ops (gateOf mq 0) ms 0 listed && forcedB md ops mp 0 (markM ms 0 listed) && stagesB md ops mq r (markM mp 0 (markM ms 0 listed))
def cntS (mq : List Bool) : List (List Bool × List Bool) → Nat
  | [] => cntT mq
  | (ms, mp) :: r => cntT ms + (cntT mp + cntS mq r)

theorem stages {l : List Oper} {mq : List Bool} (hsel : Region.noSelect ops = true) (hQ : ∀ c (a : Act) (d : Option Tmp) (v : Value) w, Q (.panic c) (a.put d v) w → Q (.panic c) a w) (hl : ∀ j, l[j]? = ops[0 + j]?) :
    ∀ (r : List (List Bool × List Bool)) (listed : Array Bool) (a : Act) (w : World), stagesB md ops mq r listed = true → wpStages P ops Q S l mq r a w → wpAnyG P md ops Q S (gateOf mq 0) (cntS mq r) listed a w
  | [], listed, a, w, hB, h => by
    simp only [stagesB, Bool.and_eq_true, List.isEmpty_iff, decide_eq_true_eq] at hB
    obtain ⟨⟨hq, hend⟩, hpos⟩ := hB
    have hr := post_head mq 0 _ hq hpos
    have hg : gateOf mq 0 ∈ Region.ready md ops listed := by rw [hr]; simp
    have hlast := posts (P := P) (Q := Q) mq l 0 _ a w hl hq hend h
    simp only [cntS]
    obtain ⟨hgf, _⟩ := mem_ready.1 hg
    cases hc : cntT mq with
    | zero => omega
    | succ n =>
      rw [hc] at hlast
      refine ⟨hlast.1, fun i hi => ?_⟩
      rw [hr, List.mem_singleton] at hi
      subst hi
      have hset : (listed.setIfInBounds (gateOf mq 0) true).getD (gateOf mq 0) true = true := by
        by_cases hlt : gateOf mq 0 < listed.size
        · simp [hlt]
        · rw [Array.getD_eq_getD_getElem?, Array.getElem?_eq_none (by simp; omega)]; rfl
      exact wpOp_mono (fun a' w' h' => ⟨fun e => absurd e (by rw [hset]; simp), wpAnyG_of_any _ _ _ _ hset h'⟩) (hlast.2 _ hg)
  | (ms, mp) :: r, listed, a, w, hB, h => by
    simp only [stagesB, Bool.and_eq_true] at hB
    obtain ⟨⟨hs, hp⟩, hB'⟩ := hB
    obtain ⟨hS, h⟩ := h
    simp only [cntS]
    refine softs hsel hQ hS ms l 0 _ a hl hs ?_
    refine wpQuiet_mono ?_ h
    intro a' hpre
    exact pres mp l 0 _ a' w hl hp (fun a'' w'' h'' => stages hsel hQ hl r _ a'' w'' hB' h'') hpre

theorem wpAny_stages {a : Act} {w : World} {l : List Oper} (S : World → Prop) (r : List (List Bool × List Bool)) (mq : List Bool) (hB : (Region.noSelect l.toArray && stagesB md l.toArray mq r (Array.replicate l.toArray.size false) && (cntS mq r == l.toArray.size)) = true)
    (hQ : ∀ c (a : Act) (d : Option Tmp) (v : Value) w, Q (.panic c) (a.put d v) w → Q (.panic c) a w) (h : wpStages P l.toArray Q S l mq r a w) :
    wpAny P md l.toArray Q l.toArray.size (Array.replicate l.toArray.size false) a w := by
  simp only [Bool.and_eq_true, beq_iff_eq] at hB
  obtain ⟨⟨hsel, hb⟩, hn⟩ := hB
  have := stages (P := P) (Q := Q) (S := S) (md := md) hsel hQ (fun j => by simp) r _ a w hb h
  rw [hn] at this
  exact wpAny_of_G _ _ _ _ this
theorem wp_region_stages {id : Nat} {a : Act} {w : World} {l : List Oper} (S : World → Prop) (r : List (List Bool × List Bool)) (mq : List Bool) (hm : P.follows .mixedOrders = true)
    (hB : (Region.noSelect l.toArray && stagesB .any l.toArray mq r (Array.replicate l.toArray.size false) && (cntS mq r == l.toArray.size)) = true)
    (hQ : ∀ c (a : Act) (d : Option Tmp) (v : Value) w, Q (.panic c) (a.put d v) w → Q (.panic c) a w) (h : wpStages P l.toArray Q S l mq r a w.drew) : (Code.region id l.toArray true).wp P Q a w :=
  wp_region_any hm (wpAny_stages S r mq hB hQ h)

/-! in a round of a range over a function -/
theorem rowsIn_wide {n : Nat} {row : String} {args : Array Value} {w : World} {R : Value → World → Prop} (h : Rows P row args w R) : RowsIn Fence.wide n P row args w R :=
  fun c cs _ => let ⟨v, w', r, s⟩ := h c cs; ⟨v, w', r, stepsIn_wide.2 s⟩
theorem uponIn_round {o : Oper} {a : Act} {next : Act → World → Prop} {l n : Nat} : ∀ {r : Result Next}, o.upon P a next Q r → o.uponIn (Fence.wide.inRound l) n P a next Q r
  | .ok (.value _) _, h => h
  | .ok .skip _, h => h
  | .ok (.defer _) _, h => h
  | .ok (.enter f args) w', h => ⟨fun e => (by cases e), CallsIn.inRound l (callsIn_wide.2 (Calls.mono h fun e w2 he => by cases e <;> exact he))⟩
  | .ok (.row row args) w', h => ⟨fun e => (by cases e), rowsIn_wide h⟩
  | .ok (.round _ _ _ _ _) _, h => h.elim
  | .halt (.panic _) _, h => h
  | .halt .blocked _, h => h.elim
  | .halt .waiting _, h => h.elim
  | .halt (.exit _) _, h => h.elim
  | .halt (.fatal _) _, h => h.elim
  | .halt (.unsupported _) _, h => h.elim
theorem wpOpIn_round {l n i : Nat} {K : Act → World → Prop} {a : Act} {w : World} (hd : ∀ (i : Nat) (o : Oper), ops[i]? = some o → ∀ c, o.op ≠ .defer c) (hQ : ¬ LetsOut Q) (h : wpOp P ops Q i K a w) : wpOpIn (Fence.wide.inRound l) n P ops Q i K a w := by
  unfold wpOp at h
  unfold wpOpIn
  cases ho : ops[i]? with
  | none => rw [ho] at h; exact h
  | some o =>
    rw [ho] at h
    dsimp only at h ⊢
    by_cases hw : Region.wanted o (yielded ops a.tmps) = true
    · rw [if_pos hw] at h ⊢
      rcases h with h | h
      · refine ⟨fun _ _ => trivial, ?_⟩
        rw [Fence.inRound_round, Oper.semAt_some _ _ _ (hd i o ho)]
        exact uponIn_round h
      · exact absurd h.2 hQ
    · rw [if_neg hw] at h ⊢
      exact ⟨fun _ _ => trivial, h⟩
theorem wpAnyIn_round {l n : Nat} (hd : ∀ (i : Nat) (o : Oper), ops[i]? = some o → ∀ c, o.op ≠ .defer c) (hQ : ¬ LetsOut Q) : ∀ (fuel : Nat) (listed : Array Bool) (a : Act) (w : World), wpAny P md ops Q fuel listed a w → wpAnyIn (Fence.wide.inRound l) n P md ops Q fuel listed a w
  | 0, _, _, _, h => h
  | fuel + 1, _, _, _, h => ⟨h.1, fun i hi => wpOpIn_round hd hQ (wpOp_mono (fun a' w' h' => wpAnyIn_round hd hQ fuel _ a' w' h') (h.2 i hi))⟩
def noDeferB (ops : Array Oper) : Bool := ops.all fun o => match o.op with | .defer _ => false | _ => true
theorem noDefer_spec (h : noDeferB ops = true) : ∀ (i : Nat) (o : Oper), ops[i]? = some o → ∀ c, o.op ≠ .defer c := by
  intro i o ho c e
  obtain ⟨hi, rfl⟩ := Array.getElem?_eq_some_iff.1 ho
  have := (Array.all_eq_true.1 h) i hi
  rw [e] at this
  cases this
theorem wpIn_region_stages {id l n : Nat} {a : Act} {w : World} {lo : List Oper} (S : World → Prop) (r : List (List Bool × List Bool)) (mq : List Bool) (hm : P.follows .mixedOrders = true)
    (hB : (Region.noSelect lo.toArray && stagesB .any lo.toArray mq r (Array.replicate lo.toArray.size false) && (cntS mq r == lo.toArray.size)) = true) (hd : noDeferB lo.toArray = true) (hO : ¬ LetsOut Q)
    (hQ : ∀ c (a : Act) (d : Option Tmp) (v : Value) w, Q (.panic c) (a.put d v) w → Q (.panic c) a w) (h : wpStages P lo.toArray Q S lo mq r a w.drew) : (Code.region id lo.toArray true).wpIn (Fence.wide.inRound l) n P Q a w :=
  wpIn_region_any hm (wpAnyIn_round (noDefer_spec hd) hO _ _ _ _ (wpAny_stages S r mq hB hQ h))
end
end Go.Proofs.Ythgnapngjmgkcaa
