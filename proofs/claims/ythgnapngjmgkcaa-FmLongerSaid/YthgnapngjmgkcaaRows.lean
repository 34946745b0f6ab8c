/-
  No cell of these rows narrows 'for every input' (looked for: loops, veiled, ifaces, maps, wideKeys, modest, calm, conditions, laid).
  DERIVED. THE GIVEN ROWS OF THIS SEAT. 6 by the template 'for every input the law returns true; each argument reads behind the call as it read before'; 0 by the template 'total and deterministic' (their statements: YthgnapngjmgkcaaTotals.lean).
  GIVEN WITH THE SEED: the statements are not yours to turn. If you find one false, say at which input.
  Laid BY PROGRAM, IN A SANDBOX (cutbox-rows.mjs): the forced cells as the released guide's own fill.sh prints them over the translation 7096501ed6e29530… (all of the seat's roots in one cut). By AI agents, Wed Nov 11 2026. No macro, syntax, notation, axiom, sorry.
-/
import Derived.Test.YthgnapngjmgkcaaChecked
import GoSem.Claim
import GoSem.ClaimJoined
import GoSem.ClaimMapViews
import Derived.JoinedTies
import Derived.KernelRfl
namespace Go.Proofs.Ythgnapngjmgkcaa
/- THE CELL 'sum', in the pinned program and in every row, IS THE sha256 OF THE DUMP (.gsa) THAT YthgnapngjmgkcaaProg.lean LOADS. Nothing in Lean hashes anything: it is a label: what it is worth is what the hold of that sum in a sandbox is worth. -/
noncomputable def Try.pinned : Pinned := { name := "ythgnapngjmgkcaa", sum := "7096501ed6e29530d7269190068690f1bd234cf73a5d2c0fdfba9da95cfcfe35", checked := Try.checked }
namespace Rows
def none {H : Type} : Left H := { results := [], args := [] }

/-- 'haystacklaw7.FmLong': WHATEVER THE INPUT: true; the input reads as it did. -/
def fmLongSpec : ChangeSpec := { name := "fmLong", fn := fun _ => fun
  | [d1, d2] => { results := [.lit (.bool true)], args := [d1, d2] }
  | _ => none }
def fmLongRow : OpenClaim := { program := "ythgnapngjmgkcaa", sum := "7096501ed6e29530d7269190068690f1bd234cf73a5d2c0fdfba9da95cfcfe35", func := "haystack/haystacklaw7.FmLong", spec := "fmLong", unfollowed := true, recurses := true, apart := false }
def FmLongSaid : Prop := fmLongRow.holds Try.pinned (OpenSpec.ofChange fmLongSpec)

/-- ITS FALSE NEIGHBOUR: 'it returns false'. Refute it at one input. -/
def fmLongWrong : ChangeSpec := { name := "fmLong", fn := fun _ => fun
  | [d1, d2] => { results := [.lit (.bool false)], args := [d1, d2] }
  | _ => none }
def FmLongWrongFalsely : Prop := fmLongRow.holds Try.pinned (OpenSpec.ofChange fmLongWrong)

/-- 'haystacklaw7.FmBytes': WHATEVER THE INPUT: true; the input reads as it did. -/
def fmBytesSpec : ChangeSpec := { name := "fmBytes", fn := fun _ => fun
  | [d1, d2] => { results := [.lit (.bool true)], args := [d1, d2] }
  | _ => none }
def fmBytesRow : OpenClaim := { program := "ythgnapngjmgkcaa", sum := "7096501ed6e29530d7269190068690f1bd234cf73a5d2c0fdfba9da95cfcfe35", func := "haystack/haystacklaw7.FmBytes", spec := "fmBytes", unfollowed := true, recurses := true, apart := false }
def FmBytesSaid : Prop := fmBytesRow.holds Try.pinned (OpenSpec.ofChange fmBytesSpec)

/-- ITS FALSE NEIGHBOUR: 'it returns false'. Refute it at one input. -/
def fmBytesWrong : ChangeSpec := { name := "fmBytes", fn := fun _ => fun
  | [d1, d2] => { results := [.lit (.bool false)], args := [d1, d2] }
  | _ => none }
def FmBytesWrongFalsely : Prop := fmBytesRow.holds Try.pinned (OpenSpec.ofChange fmBytesWrong)

/-- 'haystacklaw7.FmLonger': WHATEVER THE INPUT: true; the input reads as it did. -/
def fmLongerSpec : ChangeSpec := { name := "fmLonger", fn := fun _ => fun
  | [d1, d2, d3] => { results := [.lit (.bool true)], args := [d1, d2, d3] }
  | _ => none }
def fmLongerRow : OpenClaim := { program := "ythgnapngjmgkcaa", sum := "7096501ed6e29530d7269190068690f1bd234cf73a5d2c0fdfba9da95cfcfe35", func := "haystack/haystacklaw7.FmLonger", spec := "fmLonger", unfollowed := true, recurses := true, apart := false }
def FmLongerSaid : Prop := fmLongerRow.holds Try.pinned (OpenSpec.ofChange fmLongerSpec)

/-- ITS FALSE NEIGHBOUR: 'it returns false'. Refute it at one input. -/
def fmLongerWrong : ChangeSpec := { name := "fmLonger", fn := fun _ => fun
  | [d1, d2, d3] => { results := [.lit (.bool false)], args := [d1, d2, d3] }
  | _ => none }
def FmLongerWrongFalsely : Prop := fmLongerRow.holds Try.pinned (OpenSpec.ofChange fmLongerWrong)

/-- 'haystacklaw7.FmParts': WHATEVER THE INPUT: true; the input reads as it did. -/
def fmPartsSpec : ChangeSpec := { name := "fmParts", fn := fun _ => fun
  | [d1, d2, d3, d4] => { results := [.lit (.bool true)], args := [d1, d2, d3, d4] }
  | _ => none }
def fmPartsRow : OpenClaim := { program := "ythgnapngjmgkcaa", sum := "7096501ed6e29530d7269190068690f1bd234cf73a5d2c0fdfba9da95cfcfe35", func := "haystack/haystacklaw7.FmParts", spec := "fmParts", unfollowed := true, recurses := true, apart := false }
def FmPartsSaid : Prop := fmPartsRow.holds Try.pinned (OpenSpec.ofChange fmPartsSpec)

/-- ITS FALSE NEIGHBOUR: 'it returns false'. Refute it at one input. -/
def fmPartsWrong : ChangeSpec := { name := "fmParts", fn := fun _ => fun
  | [d1, d2, d3, d4] => { results := [.lit (.bool false)], args := [d1, d2, d3, d4] }
  | _ => none }
def FmPartsWrongFalsely : Prop := fmPartsRow.holds Try.pinned (OpenSpec.ofChange fmPartsWrong)

/-- 'haystacklaw7.FmTexts': WHATEVER THE INPUT: true; the input reads as it did. -/
def fmTextsSpec : ChangeSpec := { name := "fmTexts", fn := fun _ => fun
  | [d] => { results := [.lit (.bool true)], args := [d] }
  | _ => none }
def fmTextsRow : OpenClaim := { program := "ythgnapngjmgkcaa", sum := "7096501ed6e29530d7269190068690f1bd234cf73a5d2c0fdfba9da95cfcfe35", func := "haystack/haystacklaw7.FmTexts", spec := "fmTexts", unfollowed := true, recurses := true, apart := false }
def FmTextsSaid : Prop := fmTextsRow.holds Try.pinned (OpenSpec.ofChange fmTextsSpec)

/-- ITS FALSE NEIGHBOUR: 'it returns false'. Refute it at one input. -/
def fmTextsWrong : ChangeSpec := { name := "fmTexts", fn := fun _ => fun
  | [d] => { results := [.lit (.bool false)], args := [d] }
  | _ => none }
def FmTextsWrongFalsely : Prop := fmTextsRow.holds Try.pinned (OpenSpec.ofChange fmTextsWrong)

/-- 'haystacklaw7.FmOfNothing': WHATEVER THE INPUT: true; the input reads as it did. -/
def fmOfNothingSpec : ChangeSpec := { name := "fmOfNothing", fn := fun _ => fun
  | [d1, d2] => { results := [.lit (.bool true)], args := [d1, d2] }
  | _ => none }
def fmOfNothingRow : OpenClaim := { program := "ythgnapngjmgkcaa", sum := "7096501ed6e29530d7269190068690f1bd234cf73a5d2c0fdfba9da95cfcfe35", func := "haystack/haystacklaw7.FmOfNothing", spec := "fmOfNothing", unfollowed := true, recurses := true, apart := false }
def FmOfNothingSaid : Prop := fmOfNothingRow.holds Try.pinned (OpenSpec.ofChange fmOfNothingSpec)

/-- ITS FALSE NEIGHBOUR: 'it returns false'. Refute it at one input. -/
def fmOfNothingWrong : ChangeSpec := { name := "fmOfNothing", fn := fun _ => fun
  | [d1, d2] => { results := [.lit (.bool false)], args := [d1, d2] }
  | _ => none }
def FmOfNothingWrongFalsely : Prop := fmOfNothingRow.holds Try.pinned (OpenSpec.ofChange fmOfNothingWrong)

/- THE SECOND FORM. 'bulk': how many values and letters a reading holds, each counted each time it is reached (what is shared counts as often as it is met; a slice's spare places count too). A statement '..UptoSaid' is the law's where the arguments, and the package variables that the reading takes, are together of bulk at most 1048576: NARROWER than '..Said'. Prove '..Said' where nothing that the law and all that it calls make is longer than what came in: it says more and counts as full. Else prove '..UptoSaid'. A law counts once. -/
mutual
def uptoBulk {H : Type} : DataW H → Nat
  | .lit (.string bytes) => bytes.length + 1
  | .lit _ => 1
  | .nil => 1
  | .ptr d => uptoBulk d + 1
  | .slice elems spare => uptoBulkAll elems + uptoBulkAll spare + 1
  | .agg parts => uptoBulkAll parts + 1
  | .iface _ d => uptoBulk d + 1
  | .map entries => uptoBulkEntries entries + 1
  | .held _ => 1
def uptoBulkAll {H : Type} : List (DataW H) → Nat
  | [] => 0
  | d :: r => uptoBulk d + uptoBulkAll r
def uptoBulkEntries {H : Type} : List (Lit × DataW H) → Nat
  | [] => 0
  | x :: r => uptoBulkEntry x + uptoBulkEntries r
def uptoBulkEntry {H : Type} : Lit × DataW H → Nat
  | (.string bytes, d) => bytes.length + uptoBulk d + 1
  | (_, d) => uptoBulk d + 1
 end
def uptoSmall : (H : Type) → List (DataW H) → Bool := fun _ ds => decide (uptoBulkAll ds ≤ 1048576)
def OpenSpec.upto (s : _root_.Go.ChangeSpec) : _root_.Go.OpenSpec := { _root_.Go.OpenSpec.ofChange s with cond := some uptoSmall }

/-- 'haystacklaw7.FmLong', WHERE WHAT IT READS IS OF BULK AT MOST 1048576: true; the input reads as it did. -/
def fmLongUptoRow : OpenClaim := { program := "ythgnapngjmgkcaa", sum := "7096501ed6e29530d7269190068690f1bd234cf73a5d2c0fdfba9da95cfcfe35", func := "haystack/haystacklaw7.FmLong", spec := "fmLong", unfollowed := true, recurses := true, apart := false, narrowed := true }
def FmLongUptoSaid : Prop := fmLongUptoRow.holds Try.pinned (OpenSpec.upto fmLongSpec)

/-- 'haystacklaw7.FmBytes', WHERE WHAT IT READS IS OF BULK AT MOST 1048576: true; the input reads as it did. -/
def fmBytesUptoRow : OpenClaim := { program := "ythgnapngjmgkcaa", sum := "7096501ed6e29530d7269190068690f1bd234cf73a5d2c0fdfba9da95cfcfe35", func := "haystack/haystacklaw7.FmBytes", spec := "fmBytes", unfollowed := true, recurses := true, apart := false, narrowed := true }
def FmBytesUptoSaid : Prop := fmBytesUptoRow.holds Try.pinned (OpenSpec.upto fmBytesSpec)

/-- 'haystacklaw7.FmLonger', WHERE WHAT IT READS IS OF BULK AT MOST 1048576: true; the input reads as it did. -/
def fmLongerUptoRow : OpenClaim := { program := "ythgnapngjmgkcaa", sum := "7096501ed6e29530d7269190068690f1bd234cf73a5d2c0fdfba9da95cfcfe35", func := "haystack/haystacklaw7.FmLonger", spec := "fmLonger", unfollowed := true, recurses := true, apart := false, narrowed := true }
def FmLongerUptoSaid : Prop := fmLongerUptoRow.holds Try.pinned (OpenSpec.upto fmLongerSpec)

/-- 'haystacklaw7.FmParts', WHERE WHAT IT READS IS OF BULK AT MOST 1048576: true; the input reads as it did. -/
def fmPartsUptoRow : OpenClaim := { program := "ythgnapngjmgkcaa", sum := "7096501ed6e29530d7269190068690f1bd234cf73a5d2c0fdfba9da95cfcfe35", func := "haystack/haystacklaw7.FmParts", spec := "fmParts", unfollowed := true, recurses := true, apart := false, narrowed := true }
def FmPartsUptoSaid : Prop := fmPartsUptoRow.holds Try.pinned (OpenSpec.upto fmPartsSpec)

/-- 'haystacklaw7.FmTexts', WHERE WHAT IT READS IS OF BULK AT MOST 1048576: true; the input reads as it did. -/
def fmTextsUptoRow : OpenClaim := { program := "ythgnapngjmgkcaa", sum := "7096501ed6e29530d7269190068690f1bd234cf73a5d2c0fdfba9da95cfcfe35", func := "haystack/haystacklaw7.FmTexts", spec := "fmTexts", unfollowed := true, recurses := true, apart := false, narrowed := true }
def FmTextsUptoSaid : Prop := fmTextsUptoRow.holds Try.pinned (OpenSpec.upto fmTextsSpec)

/-- 'haystacklaw7.FmOfNothing', WHERE WHAT IT READS IS OF BULK AT MOST 1048576: true; the input reads as it did. -/
def fmOfNothingUptoRow : OpenClaim := { program := "ythgnapngjmgkcaa", sum := "7096501ed6e29530d7269190068690f1bd234cf73a5d2c0fdfba9da95cfcfe35", func := "haystack/haystacklaw7.FmOfNothing", spec := "fmOfNothing", unfollowed := true, recurses := true, apart := false, narrowed := true }
def FmOfNothingUptoSaid : Prop := fmOfNothingUptoRow.holds Try.pinned (OpenSpec.upto fmOfNothingSpec)

end Rows
end Go.Proofs.Ythgnapngjmgkcaa
