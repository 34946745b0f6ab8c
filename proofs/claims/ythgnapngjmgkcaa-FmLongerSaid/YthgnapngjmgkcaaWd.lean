import Derived.WalkKit
import Derived.Deep.QuietTactic
import Derived.Deep.Draws
import Derived.Maps.AppendAt
import Derived.Laws.AppendOwnNone
/- Words: how a slice reads, what stays when the world grows. No program. -/
namespace Go.Proofs.Ythgnapngjmgkcaa
open Go.RowKit

theorem cell_below {w w' : World} (h : Below w.heap.size w w') {a : Addr} {v : Value} (hc : w.cell? a = some v) : w'.cell? a = some v := (h.cell (World.block_lt_of_cell? w a hc)).trans hc
theorem below_drewN {B : Nat} {a w : World} (h : Below B a w) (n : Nat) : Below B a (w.drewN n) := ⟨h.os, h.tape, h.output, h.size, h.block⟩
theorem below_set {B : Nat} {w0 w : World} (h : Below B w0 w) {b : Nat} (hB : B ≤ b) (k m : Nat) (v : Value) : Below B w0 ((w.setCell ⟨b, k, none⟩ v).drewN m) := below_drewN (h.setCell hB v) m
theorem below_up {w w1 w2 : World} {B : Nat} (h : Below B w w1) (k : Below w1.heap.size w1 w2) (hB : B ≤ w1.heap.size) : Below B w w2 := h.trans (k.mono hB)

/-- the slice value v reads as xs: cells of one cell each -/
def Sl (w : World) (v : Value) (xs : List Value) : Prop :=
  ∃ ao cap, v = .slice ao xs.length cap ∧ xs.length ≤ cap ∧ cap ≤ 9223372036854775807 ∧ (ao = none → cap = 0) ∧ (xs ≠ [] → ∃ b off, ao = some ⟨b, off, none⟩ ∧ ∀ i x, xs[i]? = some x → w.cell? ⟨b, off + i, none⟩ = some x)

theorem Sl.below {w w' : World} {v : Value} {xs : List Value} (h : Sl w v xs) (hb : Below w.heap.size w w') : Sl w' v xs := by
  obtain ⟨ao, cap, hv, hl, hm, hz, hc⟩ := h
  refine ⟨ao, cap, hv, hl, hm, hz, fun hne => ?_⟩
  obtain ⟨b, off, e, hc⟩ := hc hne
  exact ⟨b, off, e, fun i x hx => cell_below hb (hc i x hx)⟩
theorem Sl.drewN {w : World} {v : Value} {xs : List Value} (h : Sl w v xs) (n : Nat) : Sl (w.drewN n) v xs := h
/-- an element's place -/
theorem Sl.at_ {w : World} {ao : Option Addr} {n cap : Nat} {xs : List Value} (h : Sl w (.slice ao n cap) xs) (i : Nat) (x : Value) (hx : xs[i]? = some x) :
    ∃ b off, ao = some ⟨b, off, none⟩ ∧ w.cell? ⟨b, off + i, none⟩ = some x := by
  obtain ⟨ao', cap', hv, hl, hm, hz, hc⟩ := h
  injection hv with e1 e2 e3
  obtain ⟨b, off, e, hc⟩ := hc (by rintro rfl; simp at hx)
  exact ⟨b, off, e1.trans e, hc i x hx⟩
theorem Sl.form {w : World} {v : Value} {xs : List Value} (h : Sl w v xs) : ∃ ao cap, v = .slice ao xs.length cap ∧ xs.length ≤ cap ∧ cap ≤ 9223372036854775807 := by
  obtain ⟨ao, cap, hv, hl, hm, _⟩ := h
  exact ⟨ao, cap, hv, hl, hm⟩
/-- where it is not empty -/
theorem Sl.full {w : World} {v : Value} {xs : List Value} (h : Sl w v xs) (hne : 0 < xs.length) :
    ∃ b off cap, v = .slice (some ⟨b, off, none⟩) xs.length cap ∧ xs.length ≤ cap ∧ cap ≤ 9223372036854775807 ∧ ∀ i x, xs[i]? = some x → w.cell? ⟨b, off + i, none⟩ = some x := by
  obtain ⟨ao, cap, hv, hl, hm, _, hc⟩ := h
  obtain ⟨b, off, e, hc⟩ := hc (by rintro rfl; simp at hne)
  exact ⟨b, off, cap, by rw [hv, e], hl, hm, hc⟩
theorem Sl.nil (w : World) : Sl w (.slice none 0 0) [] := ⟨none, 0, rfl, Nat.le_refl _, by decide, fun _ => rfl, fun h => absurd rfl h⟩
theorem Sl.mk_ {w : World} {b off cap : Nat} {xs : List Value} (hl : xs.length ≤ cap) (hm : cap ≤ 9223372036854775807) (h : ∀ i x, xs[i]? = some x → w.cell? ⟨b, off + i, none⟩ = some x) :
    Sl w (.slice (some ⟨b, off, none⟩) xs.length cap) xs := ⟨_, cap, rfl, hl, hm, (fun e => by cases e), fun _ => ⟨b, off, rfl, h⟩⟩
/-- the last of all: its value alone -/
theorem Sl.len {w : World} {ao : Option Addr} {n cap : Nat} {xs : List Value} (h : Sl w (.slice ao n cap) xs) : n = xs.length := by
  obtain ⟨ao', cap', hv, _⟩ := h
  injection hv

/-- what the call owns reads -/
theorem own_sl {w : World} {base n : Nat} {e : TypeId} {v : Value} {xs : List Value} (h : w.ownsRow base e 1 v n xs) : Sl w v xs := by
  have hn : xs.length = n := by have := h.1; omega
  rcases h.2 with ⟨rfl, rfl⟩ | ⟨g, cap, cur, rfl, hb, hh, hnc, hcm, hcs, htake⟩
  · obtain rfl : xs = [] := List.eq_nil_of_length_eq_zero hn
    exact Sl.nil w
  · subst hn
    refine Sl.mk_ hnc (by simpa [maxLen] using hcm) fun i x hx => ?_
    have := h.cells (g := g) rfl i x hx
    rwa [show (⟨g, 0, none⟩ : Addr).add i = ⟨g, 0 + i, none⟩ by unfold Addr.add; split <;> simp_all] at this

theorem own_drewN {w : World} {base n size : Nat} {e : TypeId} {v : Value} {xs : List Value} (h : w.ownsRow base e size v n xs) (m : Nat) : (w.drewN m).ownsRow base e size v n xs := h
def ints (l : List Int) : List Value := l.map (Value.int .i64)
@[simp] theorem ints_length (l : List Int) : (ints l).length = l.length := by simp [ints]
theorem ints_get (l : List Int) (i : Nat) (h : i < l.length) : (ints l)[i]? = some (.int .i64 l[i]) := by simp [ints, h]
def nats (l : List Nat) : List Value := l.map fun n : Nat => Value.int .i64 (n : Int)
@[simp] theorem nats_length (l : List Nat) : (nats l).length = l.length := by simp [nats]
theorem nats_get (l : List Nat) (i : Nat) (h : i < l.length) : (nats l)[i]? = some (.int .i64 l[i]) := by simp [nats, h]
def bytes (l : List UInt8) : List Value := l.map fun c => Value.int .u8 c.toNat
@[simp] theorem bytes_length (l : List UInt8) : (bytes l).length = l.length := by simp [bytes]
theorem bytes_get (l : List UInt8) (i : Nat) (h : i < l.length) : (bytes l)[i]? = some (.int .u8 l[i].toNat) := by simp [bytes, h]

theorem ret_int {k : IntKind} {a b : Int} (h : a = b) : Ending.returned (.int k a) = .returned (.int k b) := by rw [h]
theorem ret_bool {a b : Bool} (h : a = b) : Ending.returned (.bool a) = .returned (.bool b) := by rw [h]

/-- a call in a region that draws: the callee leaves the world alone -/
theorem quiet_same {P : Program} {f : FuncId} {args : Array Value} {w : World} {n : Nat} {v : Value}
    (h : Calls P f args (w.drewN n) fun e w' => e = .returned v ∧ w.drewN n = w') : Calls P f args (w.drewN n) fun e w'' => e = .returned v ∧ ∃ m, w'' = w.drewN m :=
  h.mono fun _ _ ⟨he, hm⟩ => ⟨he, n, hm.symm⟩

/-- a world that came behind w: what lay there lies as it lay -/
def Later (w : World) : Type := { W : World // Below w.heap.size w W }
instance (w : World) : Nonempty (Later w) := ⟨⟨w, Below.refl _ _⟩⟩
/-- a region that draws its order, whose operations read and whose calls read or lay blocks of their own: one walk, in the text's order -/
theorem wp_region_later {P : Program} {id : Nat} {Q : Exit → Act → World → Prop} {a : Act} {w : World} {l : List Oper} (hm : P.follows .mixedOrders = true) (hB : Region.lexB .any l.toArray = true)
    (h : wpQuiet P l.toArray (fun w' => ∃ x : Later w, w' = x.1) (fun a' => ∀ w', (∃ x : Later w, w' = x.1) → Q .normal a' w') l a) : (Code.region id l.toArray true).wp P Q a w :=
  wp_region_quiet (C := fun w' => ∃ x : Later w, w' = x.1) hm hB ⟨⟨w.drew, (Below.refl _ _).drew⟩, rfl⟩ (by simpa using h)
theorem later_call {P : Program} {f : FuncId} {args : Array Value} {w : World} {x : Later w} {v : Value}
    (h : Calls P f args x.1 fun e w' => e = .returned v ∧ Below x.1.heap.size x.1 w') : Calls P f args x.1 fun e w'' => e = .returned v ∧ ∃ y : Later w, w'' = y.1 :=
  h.mono fun _ w' ⟨he, hb⟩ => ⟨he, ⟨⟨w', below_up x.2 hb x.2.size⟩, rfl⟩⟩
theorem later_quiet {P : Program} {f : FuncId} {args : Array Value} {w : World} {x : Later w} {v : Value}
    (h : Calls P f args x.1 fun e w' => e = .returned v ∧ ∃ m, w' = x.1.drewN m) : Calls P f args x.1 fun e w'' => e = .returned v ∧ ∃ y : Later w, w'' = y.1 :=
  later_call (h.mono fun _ _ ⟨he, m, hw⟩ => ⟨he, hw ▸ below_drewN (Below.refl _ _) m⟩)
theorem later_same {P : Program} {f : FuncId} {args : Array Value} {w : World} {x : Later w} {v : Value}
    (h : Calls P f args x.1 fun e w' => e = .returned v ∧ x.1 = w') : Calls P f args x.1 fun e w'' => e = .returned v ∧ ∃ y : Later w, w'' = y.1 :=
  later_call (h.mono fun _ _ ⟨he, hw⟩ => ⟨he, hw ▸ Below.refl _ _⟩)
theorem Later.cell {w : World} {b o : Nat} {v : Value} (h : w.cell? ⟨b, o, none⟩ = some v) : ∀ x : Later w, x.1.cell? ⟨b, o, none⟩ = some v := fun x => cell_below x.2 h

/-- four blocks laid one behind the other -/
theorem four_blocks (w : World) (o0 o1 o2 o3 : Obj) :
    ((((w.alloc o0).alloc o1).alloc o2).alloc o3).heap[w.heap.size]? = some o0 ∧ ((((w.alloc o0).alloc o1).alloc o2).alloc o3).heap[w.heap.size + 1]? = some o1 ∧
    ((((w.alloc o0).alloc o1).alloc o2).alloc o3).heap[w.heap.size + 1 + 1]? = some o2 ∧ ((((w.alloc o0).alloc o1).alloc o2).alloc o3).heap[w.heap.size + 1 + 1 + 1]? = some o3 := by
  simp only [World.alloc, Array.getElem?_push, Array.size_push]
  refine ⟨?_, ?_, ?_, ?_⟩
  · rw [if_neg (by omega), if_neg (by omega), if_neg (by omega), if_pos trivial]
  · rw [if_neg (by omega), if_neg (by omega), if_pos trivial]
  · rw [if_neg (by omega), if_pos trivial]
  · rw [if_pos trivial]
theorem below_four (w : World) (o0 o1 o2 o3 : Obj) : Below w.heap.size w ((((w.alloc o0).alloc o1).alloc o2).alloc o3) :=
  ((((Below.refl _ _).alloc (Nat.le_refl _) _).alloc (by simp) _).alloc (by simp; omega) _).alloc (by simp; omega) _
theorem two_blocks (w : World) (o0 o1 : Obj) : ((w.alloc o0).alloc o1).heap[w.heap.size]? = some o0 ∧ ((w.alloc o0).alloc o1).heap[w.heap.size + 1]? = some o1 := by
  simp only [World.alloc, Array.getElem?_push, Array.size_push]
  refine ⟨?_, ?_⟩
  · rw [if_neg (by omega), if_pos trivial]
  · rw [if_pos trivial]
theorem below_two (w : World) (o0 o1 : Obj) : Below w.heap.size w ((w.alloc o0).alloc o1) := ((Below.refl _ _).alloc (Nat.le_refl _) _).alloc (by simp) _
theorem cell_heap {w : World} {b o : Nat} {cs : Array Value} {e : TypeId} {fr : Nat × Nat} (h : w.heap[b]? = some (.cells cs e fr)) : w.cell? ⟨b, o, none⟩ = cs[o]? := by simp [World.cell?, h]

/-- what lay in w lies as it lay, but in blocks of S -/
structure Keeps (S : Nat → Prop) (w w' : World) : Prop where
  os : w'.os = w.os
  tape : w'.tape = w.tape
  output : w'.output = w.output
  size : w.heap.size ≤ w'.heap.size
  block : ∀ k, k < w.heap.size → ¬ S k → w'.heap[k]? = w.heap[k]?
namespace Keeps
variable {S : Nat → Prop} {w w' w'' : World}
theorem refl (S : Nat → Prop) (w : World) : Keeps S w w := ⟨rfl, rfl, rfl, Nat.le_refl _, fun _ _ _ => rfl⟩
theorem trans (h : Keeps S w w') (k : Keeps S w' w'') : Keeps S w w'' :=
  ⟨k.os.trans h.os, k.tape.trans h.tape, k.output.trans h.output, Nat.le_trans h.size k.size, fun i hi hs => (k.block i (Nat.lt_of_lt_of_le hi h.size) hs).trans (h.block i hi hs)⟩
/-- the second step may write blocks of its own, made since -/
theorem trans' {S' : Nat → Prop} (h : Keeps S w w') (k : Keeps S' w' w'') (hs : ∀ i, S' i → w.heap.size ≤ i ∨ S i) : Keeps S w w'' :=
  ⟨k.os.trans h.os, k.tape.trans h.tape, k.output.trans h.output, Nat.le_trans h.size k.size, fun i hi hn => (k.block i (Nat.lt_of_lt_of_le hi h.size) (fun h' => by
    rcases hs i h' with h1 | h1
    · omega
    · exact hn h1)).trans (h.block i hi hn)⟩
theorem mono {S' : Nat → Prop} (h : Keeps S w w') (hs : ∀ i, S i → S' i) : Keeps S' w w' := ⟨h.os, h.tape, h.output, h.size, fun i hi hn => h.block i hi fun h' => hn (hs i h')⟩
theorem of_below (h : Below w.heap.size w w') (S : Nat → Prop) : Keeps S w w' := ⟨h.os, h.tape, h.output, h.size, fun i hi _ => h.block i hi⟩
theorem of_grownBy {row : Option Nat} (h : w.grownBy w' row) (hs : ∀ i, row = some i → S i) : Keeps S w w' := ⟨h.os, h.tape, h.output, h.size, fun i hi hn => h.block i hi fun e => hn (hs i e.symm)⟩
theorem grownBy {row : Option Nat} (h : Keeps (fun i => some i = row) w w') : w.grownBy w' row := ⟨h.os, h.tape, h.output, h.size, fun i hi hn => h.block i hi hn⟩
theorem alloc (h : Keeps S w w') (o : Obj) : Keeps S w (w'.alloc o) := h.trans (of_below ((Below.refl _ _).alloc (Nat.le_refl _) o) S)
theorem drewN (h : Keeps S w w') (n : Nat) : Keeps S w (w'.drewN n) := ⟨h.os, h.tape, h.output, h.size, h.block⟩
theorem setCell (h : Keeps S w w') {a : Addr} (ha : S a.block) (v : Value) : Keeps S w (w'.setCell a v) :=
  h.trans ⟨rfl, rfl, rfl, by simp, fun k _ hn => Below.heap_setCell _ _ _ _ (fun e => hn (e ▸ ha))⟩
/-- the store is into a block made since -/
theorem setCell' (h : Keeps S w w') {a : Addr} (ha : w.heap.size ≤ a.block) (v : Value) : Keeps S w (w'.setCell a v) :=
  h.trans' (S' := fun i => i = a.block) ⟨rfl, rfl, rfl, by simp, fun k _ hn => Below.heap_setCell _ _ _ _ hn⟩ (fun i e => .inl (e ▸ ha))
theorem below {B : Nat} (h : Keeps S w w') (hS : ∀ i, S i → B ≤ i) (hB : B ≤ w.heap.size) : Below B w w' := ⟨h.os, h.tape, h.output, h.size, fun i hi => h.block i (Nat.lt_of_lt_of_le hi hB) fun h' => by have := hS i h'; omega⟩
theorem heap (h : Keeps S w w') {b : Nat} {o : Obj} (hb : w.heap[b]? = some o) (hn : ¬ S b) : w'.heap[b]? = some o := (h.block b (Array.getElem?_eq_some_iff.1 hb).1 hn).trans hb
theorem cell (h : Keeps S w w') {a : Addr} {v : Value} (hc : w.cell? a = some v) (hn : ¬ S a.block) : w'.cell? a = some v :=
  (World.cell?_of_block (h.block _ (World.block_lt_of_cell? w a hc) hn)).trans hc
theorem own {base n size : Nat} {e : TypeId} {v : Value} {xs : List Value} (h : Keeps S w w') (ho : w.ownsRow base e size v n xs) (hn : ∀ b, v.ownBlock = some b → ¬ S b) : w'.ownsRow base e size v n xs := by
  refine ⟨ho.1, ?_⟩
  rcases ho.2 with hx | ⟨g, cap, cur, rfl, hb, hgg, rest⟩
  · exact .inl hx
  · exact .inr ⟨g, cap, cur, rfl, hb, h.heap hgg (hn g rfl), rest⟩
end Keeps

/-- append(v, u...): v nil or the call's own, u whatever reads -/
theorem run_append_sl {P : Program} (w : World) (base : Nat) (t ty e : TypeId) (i : TypeInfo) (z : Value) (bytes : Nat) (ht : P.underlying t = some (.slice e)) (hi : P.info? e = some i) (hz : i.zero = some z)
    (hsize : i.size = 1) (hby : i.bytes = bytes) (hzs : z.cells.size = 1) (v : Value) (n : Nat) (xs : List Value) (hown : w.ownsRow base e 1 v n xs) (u : Value) (news : List Value) (hu : Sl w u news)
    (h1 : ∀ x ∈ news, x.oneCell' = true) (h63 : n + news.length ≤ maxLen) (hbytes : (n + news.length) * bytes ≤ 140737488355328) (hbase : base ≤ w.heap.size) :
    ∃ v' w', (Builtin.append_ #[t, t] ty #[v, u]).run P w = .ok v' w' ∧ w'.ownsRow base e 1 v' (n + news.length) (xs ++ news) ∧ w.grownBy w' v.ownBlock ∧
      (v' = .slice none 0 0 ↔ v = .slice none 0 0 ∧ news.length = 0) ∧ (v'.ownBlock = v.ownBlock ∨ v'.ownBlock = some w.heap.size) := by
  obtain ⟨ao, cap, rfl, hl, hm, hn, hc⟩ := hu
  cases ao with
  | none =>
    have hnil : news = [] := by
      by_cases h : news = []
      · exact h
      · obtain ⟨b, off, e, _⟩ := hc h; cases e
    subst hnil
    obtain rfl := hn rfl
    refine ⟨v, w, run_append_owned_none (P := P) (w := w) base t ty e i 1 ht hi v n xs hown, by simpa using hown, World.grownBy.refl _ _, by simp, .inl rfl⟩
  | some ad =>
    refine run_append_own_at w base t ty e i z 1 bytes ht hi hz hsize hby hzs (by decide) v n xs hown ad news.length cap news (by simp) ?_ h1 h63 hbytes hbase
    intro j x hx
    obtain ⟨b, off, e, hcc⟩ := hc (by rintro rfl; simp at hx)
    injection e with e
    rw [e, show (⟨b, off, none⟩ : Addr).add j = ⟨b, off + j, none⟩ by unfold Addr.add; split <;> simp_all]
    exact hcc j x hx
theorem wpList_append_sl {P : Program} (w : World) {ops : Array Oper} {rest : List Oper} {o : Oper} {a : Act} {Q : Exit → Act → World → Prop} (hgd : o.guard = none) (s x : Operand) (t : TypeId)
    (ho : o.op = .call { callee := .builtin .append, args := #[s, x], argTypes := #[t, t] }) (base : Nat) (e : TypeId) (i : TypeInfo) (z : Value) (bytes : Nat) (ht : P.underlying t = some (.slice e)) (hi : P.info? e = some i) (hz : i.zero = some z)
    (hsize : i.size = 1) (hby : i.bytes = bytes) (hzs : z.cells.size = 1) (v : Value) (n : Nat) (xs : List Value) (hs : a.eval s = v) (hown : w.ownsRow base e 1 v n xs) (u : Value) (news : List Value) (hx : a.eval x = u) (hu : Sl w u news)
    (h1 : ∀ x ∈ news, x.oneCell' = true) (h63 : n + news.length ≤ maxLen) (hbytes : (n + news.length) * bytes ≤ 140737488355328) (hbase : base ≤ w.heap.size)
    (h : ∀ v' w', w'.ownsRow base e 1 v' (n + news.length) (xs ++ news) → w.grownBy w' v.ownBlock → (v' = .slice none 0 0 ↔ v = .slice none 0 0 ∧ news.length = 0) → (v'.ownBlock = v.ownBlock ∨ v'.ownBlock = some w.heap.size) → wpList P ops Q rest (a.put o.dst v') w') :
    wpList P ops Q (o :: rest) a w := by
  refine wpList_plain hgd fun K hK => ?_
  obtain ⟨v', w', hr, h2, h3, h4, h5⟩ := run_append_sl (P := P) w base t o.type e i z bytes ht hi hz hsize hby hzs v n xs hown u news hu h1 h63 hbytes hbase
  unfold Oper.wp execOp
  simp only [ho, resolve, invoke, builtin, Sem.run_bind, Sem.run_pure, Result.andThen_ok, List.map_toArray, List.map_cons, List.map_nil, hs, hx, hr]
  exact hK _ _ (h v' w' h2 h3 h4 h5)
/-- what is read off one world reads in another one that agrees on some blocks -/
def Agree (lo hi : Nat) (w w' : World) : Prop := ∀ k, lo ≤ k → k < hi → w'.heap[k]? = w.heap[k]?
theorem Agree.heap {lo hi : Nat} {w w' : World} (h : Agree lo hi w w') {b : Nat} {o : Obj} (hb : w.heap[b]? = some o) (h1 : lo ≤ b) (h2 : b < hi) : w'.heap[b]? = some o := (h b h1 h2).trans hb
theorem Agree.own {lo hi : Nat} {w w' : World} (h : Agree lo hi w w') {base n size : Nat} {e : TypeId} {v : Value} {xs : List Value} (ho : w.ownsRow base e size v n xs) (h1 : lo ≤ base) (h2 : w.heap.size ≤ hi) : w'.ownsRow base e size v n xs := by
  refine ⟨ho.1, ?_⟩
  rcases ho.2 with hx | ⟨g, cap, cur, rfl, hb, hgg, rest⟩
  · exact .inl hx
  · exact .inr ⟨g, cap, cur, rfl, hb, h.heap hgg (Nat.le_trans h1 hb) (Nat.lt_of_lt_of_le (Array.getElem?_eq_some_iff.1 hgg).1 h2), rest⟩
theorem Agree.of_keeps {lo hi : Nat} {S : Nat → Prop} {w w' : World} (h : Keeps S w w') (hS : ∀ i, S i → i < lo ∨ hi ≤ i) (hh : hi ≤ w.heap.size) : Agree lo hi w w' :=
  fun k h1 h2 => h.block k (by omega) fun hs => by have := hS k hs; omega

end Go.Proofs.Ythgnapngjmgkcaa
