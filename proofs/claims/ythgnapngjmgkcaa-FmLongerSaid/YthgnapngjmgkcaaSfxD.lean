import Derived.Test.YthgnapngjmgkcaaSfx2
/- What suffix.Array answers. -/
namespace Go.Proofs.Ythgnapngjmgkcaa
open Go.RowKit

def ArrayOk (w : World) (s : List Nat) (e : Ending) (w' : World) : Prop :=
  ∃ (b : Nat) (sa : List Nat), e = .returned (.tuple #[.slice (some ⟨b, 0, none⟩) s.length s.length, .int .i64 0]) ∧ w.heap.size ≤ b ∧ Nums w' b s.length (fun i => sa.getD i 0) ∧ IsSA s sa ∧ Below w.heap.size w w'

end Go.Proofs.Ythgnapngjmgkcaa
