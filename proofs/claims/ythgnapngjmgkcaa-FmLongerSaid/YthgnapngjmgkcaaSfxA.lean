import Derived.Test.YthgnapngjmgkcaaSfx3
/- What suffix.Array answers (proved in the text Sfx3). -/
namespace Go.Proofs.Ythgnapngjmgkcaa
open Go.RowKit

theorem arrayOk (w : World) (v : Value) (s : List Nat) (h0 : 0 < s.length) (hs : s.length ≤ 65536) (hv : Sl w v (nats s)) :
    Calls Try.prog 33 #[v] w (ArrayOk w s) :=
  sufArray w v s h0 hs hv
end Go.Proofs.Ythgnapngjmgkcaa
