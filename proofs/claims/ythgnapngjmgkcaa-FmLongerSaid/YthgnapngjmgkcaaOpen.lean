import Derived.Test.YthgnapngjmgkcaaFm8
import Derived.Deep.Matrix
import Derived.Carry
import Derived.OpenShut
import Derived.DataShut
/- Arguments: a slice of bytes, a slice of slices of bytes: what they read as; they read so behind a call that leaves the older blocks. -/
namespace Go.Proofs.Ythgnapngjmgkcaa
open Go.ChangeShapes Go.WideShapes Go.RowKit Go.Deep

theorem Try.laidOut : laidOutB Try.prog = true := by kernel_rfl
theorem Try.readBytes : Try.prog.readableRec 24 = true := by kernel_rfl
theorem Try.readTexts : Try.prog.readableRec 23 = true := by kernel_rfl
theorem Try.cellsByte : Try.prog.cellsOf 5 = 1 := by kernel_rfl
theorem Try.cellsBytes : Try.prog.cellsOf 24 = 1 := by kernel_rfl
theorem Try.rowBytes : 24 < Try.prog.types.size := of_decide_eq_true (by kernel_rfl)
theorem Try.rowTexts : 23 < Try.prog.types.size := of_decide_eq_true (by kernel_rfl)

section
variable {H : Type} {enc : TypeId × Value → H} {W W' : World}
theorem argStays {t : TypeId} {v : Value} {d : DataW H} {ps : List MemPlace} (hr : Try.prog.readableRec t = true) (ht : t < Try.prog.types.size) (h : DataW.Trod enc Try.prog W 0 (fun _ => true) true t v d ps) (hb : Below W.heap.size W W')
    (hlt : ∀ x ∈ ps, x.block < W.heap.size) {sp : Nat → Bool} (hsp : ∀ x ∈ ps, sp x.block = true) : DataW.Trod enc Try.prog W' 0 sp true t v d ps :=
  WideElems.Trod_stays Try.laidOut hr ht h (fun x hx => hb.same (hlt x hx)) hsp

theorem sl_cells {w : World} {ao : Option Addr} {n cap : Nat} {xs : List Value} (hx : xs.length = n) (hn : n ≤ cap) (hm : cap ≤ 9223372036854775807) (h0 : ao = none → cap = 0)
    (hc : ∀ a, ao = some a → ∀ c x, xs[c]? = some x → w.cell? (a.add c) = some x) : Sl w (.slice ao n cap) xs := by
  subst hx
  refine ⟨ao, cap, rfl, hn, hm, h0, fun hne => ?_⟩
  cases ao with
  | none => have := h0 rfl; exact absurd (List.eq_nil_of_length_eq_zero (by omega)) hne
  | some a =>
    obtain ⟨b, off, spot⟩ := a
    have hc := hc _ rfl
    have hp : 0 < xs.length := List.length_pos_iff.2 hne
    have hs : spot = none := by simpa [Addr.add] using World.cell?_spot (hc 0 _ (List.getElem?_eq_getElem hp))
    subst hs
    exact ⟨b, off, rfl, fun i x hi => by rw [← add_plain]; exact hc i x hi⟩
/-- the bytes of numbers -/
def bytesOf (zs : List Int) : List UInt8 := zs.map fun n => UInt8.ofNat n.toNat
theorem bytesOf_cells {zs : List Int} (h : ∀ n ∈ zs, (Lit.int .u8 n).wf = true) : bytes (bytesOf zs) = zs.map (fun n => Value.int .u8 n) := by
  rw [bytes, bytesOf, List.map_map]
  refine List.map_congr_left fun n hn => ?_
  have := (Lit.wf_int_iff .u8 n).1 (h n hn)
  have h1 : 0 ≤ n ∧ n ≤ 255 := this
  have h2 : n.toNat % 256 = n.toNat := Nat.mod_eq_of_lt (by omega)
  show Value.int .u8 (((UInt8.ofNat n.toNat).toNat : Nat) : Int) = _
  rw [UInt8.toNat_ofNat', h2]
  congr 1
  omega
theorem bytes_sl {w : World} {ao : Option Addr} {n cap : Nat} {zs : List Int} (hz : zs.length = cap) (hn : n ≤ cap) (hm : cap ≤ maxLen) (h0 : ao = none → cap = 0) (hw : ∀ n ∈ zs, (Lit.int .u8 n).wf = true)
    (hc : ∀ a, ao = some a → ∀ c, c < cap → w.cell? (a.add c) = some (.int .u8 (zs.getD c 0))) : Sl w (.slice ao n cap) (bytes (bytesOf (zs.take n))) := by
  rw [bytesOf_cells (fun m hm => hw m (List.mem_of_mem_take hm))]
  refine sl_cells (by simp; omega) hn (by simpa [maxLen] using hm) h0 fun a ha c x hx => ?_
  rw [List.getElem?_map] at hx
  have hcn : c < n := by
    rcases Nat.lt_or_ge c n with q | q
    · exact q
    · rw [List.getElem?_eq_none (by simp; omega)] at hx; cases hx
  rw [hc a ha c (by omega), List.getD_eq_getElem?_getD]
  rw [List.getElem?_take_of_lt hcn, List.getElem?_eq_getElem (by omega)] at hx
  rw [List.getElem?_eq_getElem (by omega)]
  simpa using hx

theorem openBytes {v : Value} {d : DataW H} {ps : List MemPlace} (hv : ∃ a len cap, v = .slice a len cap) (h : DataW.Trod enc Try.prog W 0 (fun _ => true) true 24 v d ps) : ∃ l, Sl W v (bytes l) := by
  obtain ⟨a0, len, cap, rfl⟩ := hv
  obtain ⟨fuel, hf⟩ := h
  rcases open_ints Try.underlying24 Try.underlying5 Try.cellsByte hf with ⟨hcs, _⟩ | ⟨a, len', cap', zs, hcs, _, hl, hm, hz, _, hc, hw⟩
  · simp [Value.cells] at hcs
    obtain ⟨rfl, rfl, rfl⟩ := hcs
    exact ⟨[], Sl.nil W⟩
  · simp [Value.cells] at hcs
    obtain ⟨rfl, rfl, rfl⟩ := hcs
    simp only [if_true] at hz
    refine ⟨_, bytes_sl hz hl hm (fun e => by cases e) hw fun a' e c hcc => ?_⟩
    cases e
    exact hc c (by omega)
theorem openTexts {v : Value} {d : DataW H} {ps : List MemPlace} (hv : ∃ a len cap, v = .slice a len cap) (h : DataW.Trod enc Try.prog W 0 (fun _ => true) true 23 v d ps) : ∃ l, Texts W v l := by
  obtain ⟨a0, len, cap, rfl⟩ := hv
  obtain ⟨fuel, hf⟩ := h
  rcases open_int_rows Try.underlying23 Try.underlying24 Try.underlying5 Try.cellsBytes Try.cellsByte hf with ⟨hcs, _⟩ | ⟨a, len', cap', A, L, C, Z, hcs, _, hl, hm, _, hr⟩
  · simp [Value.cells] at hcs
    obtain ⟨rfl, rfl, rfl⟩ := hcs
    exact ⟨[], [], Sl.nil W, rfl, fun i t x h => by simp at h⟩
  · simp [Value.cells] at hcs
    obtain ⟨rfl, rfl, rfl⟩ := hcs
    refine ⟨(List.range len).map fun r => bytesOf ((Z r).take (L r)), (List.range len).map fun r => .slice (A r) (L r) (C r), ?_, by simp, ?_⟩
    · refine sl_cells (by simp) hl (by simpa [maxLen] using hm) (fun e => by cases e) fun a' e c x hx => ?_
      cases e
      rw [List.getElem?_map] at hx
      have hcn : c < len := by
        rcases Nat.lt_or_ge c len with q | q
        · exact q
        · rw [List.getElem?_eq_none (by simp; omega)] at hx; cases hx
      rw [List.getElem?_range hcn] at hx
      simp at hx
      rw [(hr c (by omega)).1, ← hx]
    · intro i t x h1 h2
      have hcn : i < len := by
        rcases Nat.lt_or_ge i len with q | q
        · exact q
        · rw [List.getElem?_eq_none (by simp; omega)] at h1; cases h1
      rw [List.getElem?_map, List.getElem?_range hcn] at h1 h2
      simp at h1 h2
      subst h1 h2
      obtain ⟨_, q1, q2, q3, q4, q5, q6⟩ := hr i (by omega)
      exact bytes_sl q3 q1 q2 q5 q4 fun a' e c hc => (q6 a' e).2 c hc
end
end Go.Proofs.Ythgnapngjmgkcaa
