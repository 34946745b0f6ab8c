import Derived.Test.YthgnapngjmgkcaaOpen
import Derived.SizedLaws
/- Arguments: a slice of bytes, and how long it can be. -/
namespace Go.Proofs.Ythgnapngjmgkcaa
open Go.ChangeShapes Go.WideShapes Go.RowKit Go.Deep

theorem Try.bytesByte : Try.prog.bytesOf 5 = 1 := by kernel_rfl
section
variable {H : Type} {enc : TypeId × Value → H} {W : World}
theorem openBytesS {v : Value} {d : DataW H} {ps : List MemPlace} (hv : ∃ a len cap, v = .slice a len cap) (h : DataW.Trod enc Try.prog W 0 (fun _ => true) true 24 v d ps)
    (hz : ∀ elems rest, d = .slice elems rest → (elems.length + rest.length) * Try.prog.bytesOf 5 ≤ reachBytes) : ∃ l, Sl W v (bytes l) ∧ l.length ≤ 140737488355328 := by
  obtain ⟨a0, len, cap, rfl⟩ := hv
  obtain ⟨fuel, hf⟩ := h
  rcases open_ints Try.underlying24 Try.underlying5 Try.cellsByte hf with ⟨hcs, _⟩ | ⟨a, len', cap', zs, hcs, _, hl, hm, hzl, hd, hc, hw⟩
  · simp [Value.cells] at hcs
    obtain ⟨rfl, rfl, rfl⟩ := hcs
    exact ⟨[], Sl.nil W, by simp⟩
  · simp [Value.cells] at hcs
    obtain ⟨rfl, rfl, rfl⟩ := hcs
    simp only [if_true] at hzl
    simp only [Prod.mk.injEq] at hd
    have h1 := hz _ _ hd.1
    have h2 := reachBytes_lt
    rw [Try.bytesByte] at h1
    refine ⟨_, bytes_sl hzl hl hm (fun e => by cases e) hw (fun a' e c hcc => ?_), ?_⟩
    · cases e
      exact hc c (by omega)
    · simp [lits] at h1
      simp [bytesOf]
      omega
end
end Go.Proofs.Ythgnapngjmgkcaa
