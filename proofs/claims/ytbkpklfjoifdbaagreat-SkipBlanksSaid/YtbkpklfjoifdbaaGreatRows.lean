/-
  No cell of these rows narrows 'for every input' (looked for: loops, veiled, ifaces, maps, wideKeys, modest, calm, conditions, laid).
  DERIVED. THE GIVEN ROWS OF THIS SEAT. 4 by the template 'for every input the law returns true; each argument reads behind the call as it read before'; 0 by the template 'total and deterministic' (their statements: YtbkpklfjoifdbaaGreatTotals.lean).
  GIVEN WITH THE SEED: the statements are not yours to turn. If you find one false, say at which input.
  Laid BY PROGRAM, IN A SANDBOX (cutbox-rows.mjs): the forced cells as the released guide's own fill.sh prints them over the translation b59f47bfd3b3c343… (all of the seat's roots in one cut). By AI agents, Wed Nov 11 2026. No macro, syntax, notation, axiom, sorry.
-/
import Derived.Test.YtbkpklfjoifdbaaGreatChecked
import GoSem.Claim
import GoSem.ClaimJoined
import GoSem.ClaimMapViews
import Derived.JoinedTies
import Derived.KernelRfl
namespace Go.Proofs.YtbkpklfjoifdbaaGreat
/- THE CELL 'sum', in the pinned program and in every row, IS THE sha256 OF THE DUMP (.gsa) THAT YtbkpklfjoifdbaaGreatProg.lean LOADS. Nothing in Lean hashes anything: it is a label: what it is worth is what the hold of that sum in a sandbox is worth. -/
noncomputable def Tryz.pinned : Pinned := { name := "ytbkpklfjoifdbaagreat", sum := "b59f47bfd3b3c343fb09c8041f6a32372245f51ab05171e2137e71b150ec3e4a", checked := Tryz.checked }
namespace Rows
def none {H : Type} : Left H := { results := [], args := [] }

/-- 'besomtop.TopFinished': WHATEVER THE INPUT: true; the input reads as it did. -/
def topFinishedSpec : ChangeSpec := { name := "topFinished", fn := fun _ => fun
  | [d1, d2, d3] => { results := [.lit (.bool true)], args := [d1, d2, d3] }
  | _ => none }
def topFinishedRow : OpenClaim := { program := "ytbkpklfjoifdbaagreat", sum := "b59f47bfd3b3c343fb09c8041f6a32372245f51ab05171e2137e71b150ec3e4a", func := "besom/besomtop.TopFinished", spec := "topFinished", inPlace := ["math/bits.Add64"], unfollowed := true, recurses := true, named := ["math/bits.divideError", "math/bits.overflowError"], plainKeys := false, apart := false }
def TopFinishedSaid : Prop := topFinishedRow.holds Tryz.pinned (OpenSpec.ofChange topFinishedSpec)

/-- ITS FALSE NEIGHBOUR: 'it returns false'. Refute it at one input. -/
def topFinishedWrong : ChangeSpec := { name := "topFinished", fn := fun _ => fun
  | [d1, d2, d3] => { results := [.lit (.bool false)], args := [d1, d2, d3] }
  | _ => none }
def TopFinishedWrongFalsely : Prop := topFinishedRow.holds Tryz.pinned (OpenSpec.ofChange topFinishedWrong)

/-- 'besomlaw11.SkipAfters': WHATEVER THE INPUT: true; the input reads as it did. -/
def skipAftersSpec : ChangeSpec := { name := "skipAfters", fn := fun _ => fun
  | [d1, d2, d3] => { results := [.lit (.bool true)], args := [d1, d2, d3] }
  | _ => none }
def skipAftersRow : OpenClaim := { program := "ytbkpklfjoifdbaagreat", sum := "b59f47bfd3b3c343fb09c8041f6a32372245f51ab05171e2137e71b150ec3e4a", func := "besom/besomlaw11.SkipAfters", spec := "skipAfters", inPlace := ["math/bits.Add64"], unfollowed := true, recurses := true, named := ["math/bits.divideError", "math/bits.overflowError"], plainKeys := false, apart := false }
def SkipAftersSaid : Prop := skipAftersRow.holds Tryz.pinned (OpenSpec.ofChange skipAftersSpec)

/-- ITS FALSE NEIGHBOUR: 'it returns false'. Refute it at one input. -/
def skipAftersWrong : ChangeSpec := { name := "skipAfters", fn := fun _ => fun
  | [d1, d2, d3] => { results := [.lit (.bool false)], args := [d1, d2, d3] }
  | _ => none }
def SkipAftersWrongFalsely : Prop := skipAftersRow.holds Tryz.pinned (OpenSpec.ofChange skipAftersWrong)

/-- 'besomlaw11.SkipBlanks': WHATEVER THE INPUT: true; the input reads as it did. -/
def skipBlanksSpec : ChangeSpec := { name := "skipBlanks", fn := fun _ => fun
  | [d1, d2] => { results := [.lit (.bool true)], args := [d1, d2] }
  | _ => none }
def skipBlanksRow : OpenClaim := { program := "ytbkpklfjoifdbaagreat", sum := "b59f47bfd3b3c343fb09c8041f6a32372245f51ab05171e2137e71b150ec3e4a", func := "besom/besomlaw11.SkipBlanks", spec := "skipBlanks", inPlace := ["math/bits.Add64"], unfollowed := true, recurses := true, named := ["math/bits.divideError", "math/bits.overflowError"], plainKeys := false, apart := false }
def SkipBlanksSaid : Prop := skipBlanksRow.holds Tryz.pinned (OpenSpec.ofChange skipBlanksSpec)

/-- ITS FALSE NEIGHBOUR: 'it returns false'. Refute it at one input. -/
def skipBlanksWrong : ChangeSpec := { name := "skipBlanks", fn := fun _ => fun
  | [d1, d2] => { results := [.lit (.bool false)], args := [d1, d2] }
  | _ => none }
def SkipBlanksWrongFalsely : Prop := skipBlanksRow.holds Tryz.pinned (OpenSpec.ofChange skipBlanksWrong)

/-- 'besomlaw11.SkipNames': WHATEVER THE INPUT: true; the input reads as it did. -/
def skipNamesSpec : ChangeSpec := { name := "skipNames", fn := fun _ => fun
  | [] => { results := [.lit (.bool true)], args := [] }
  | _ => none }
def skipNamesRow : OpenClaim := { program := "ytbkpklfjoifdbaagreat", sum := "b59f47bfd3b3c343fb09c8041f6a32372245f51ab05171e2137e71b150ec3e4a", func := "besom/besomlaw11.SkipNames", spec := "skipNames", inPlace := ["math/bits.Add64"], unfollowed := true, recurses := true, named := ["math/bits.divideError", "math/bits.overflowError"], plainKeys := false, apart := false }
def SkipNamesSaid : Prop := skipNamesRow.holds Tryz.pinned (OpenSpec.ofChange skipNamesSpec)

/-- ITS FALSE NEIGHBOUR: 'it returns false'. Refute it at one input. -/
def skipNamesWrong : ChangeSpec := { name := "skipNames", fn := fun _ => fun
  | [] => { results := [.lit (.bool false)], args := [] }
  | _ => none }
def SkipNamesWrongFalsely : Prop := skipNamesRow.holds Tryz.pinned (OpenSpec.ofChange skipNamesWrong)

/- THE SECOND FORM. 'bulk': how many values and letters a reading holds, each counted each time it is reached (what is shared counts as often as it is met; a slice's spare places count too). A statement '..UptoSaid' is the law's where the arguments, and the package variables that the reading takes, are together of bulk at most 1048576: NARROWER than '..Said'. Prove '..Said' where nothing that the law and all that it calls make is longer than what came in: it says more and counts as full. Else prove '..UptoSaid'. A law counts once. -/
mutual
def uptoBulk {H : Type} : DataW H → Nat
  | .lit (.string bytes) => bytes.length + 1
  | .lit _ => 1
  | .nil => 1
  | .ptr d => uptoBulk d + 1
  | .slice elems spare => uptoBulkAll elems + uptoBulkAll spare + 1
  | .agg parts => uptoBulkAll parts + 1
  | .iface _ d => uptoBulk d + 1
  | .map entries => uptoBulkEntries entries + 1
  | .held _ => 1
def uptoBulkAll {H : Type} : List (DataW H) → Nat
  | [] => 0
  | d :: r => uptoBulk d + uptoBulkAll r
def uptoBulkEntries {H : Type} : List (Lit × DataW H) → Nat
  | [] => 0
  | x :: r => uptoBulkEntry x + uptoBulkEntries r
def uptoBulkEntry {H : Type} : Lit × DataW H → Nat
  | (.string bytes, d) => bytes.length + uptoBulk d + 1
  | (_, d) => uptoBulk d + 1
 end
def uptoSmall : (H : Type) → List (DataW H) → Bool := fun _ ds => decide (uptoBulkAll ds ≤ 1048576)
def OpenSpec.upto (s : _root_.Go.ChangeSpec) : _root_.Go.OpenSpec := { _root_.Go.OpenSpec.ofChange s with cond := some uptoSmall }

/-- 'besomtop.TopFinished', WHERE WHAT IT READS IS OF BULK AT MOST 1048576: true; the input reads as it did. -/
def topFinishedUptoRow : OpenClaim := { program := "ytbkpklfjoifdbaagreat", sum := "b59f47bfd3b3c343fb09c8041f6a32372245f51ab05171e2137e71b150ec3e4a", func := "besom/besomtop.TopFinished", spec := "topFinished", inPlace := ["math/bits.Add64"], unfollowed := true, recurses := true, named := ["math/bits.divideError", "math/bits.overflowError"], plainKeys := false, apart := false, narrowed := true }
def TopFinishedUptoSaid : Prop := topFinishedUptoRow.holds Tryz.pinned (OpenSpec.upto topFinishedSpec)

/-- 'besomlaw11.SkipAfters', WHERE WHAT IT READS IS OF BULK AT MOST 1048576: true; the input reads as it did. -/
def skipAftersUptoRow : OpenClaim := { program := "ytbkpklfjoifdbaagreat", sum := "b59f47bfd3b3c343fb09c8041f6a32372245f51ab05171e2137e71b150ec3e4a", func := "besom/besomlaw11.SkipAfters", spec := "skipAfters", inPlace := ["math/bits.Add64"], unfollowed := true, recurses := true, named := ["math/bits.divideError", "math/bits.overflowError"], plainKeys := false, apart := false, narrowed := true }
def SkipAftersUptoSaid : Prop := skipAftersUptoRow.holds Tryz.pinned (OpenSpec.upto skipAftersSpec)

/-- 'besomlaw11.SkipBlanks', WHERE WHAT IT READS IS OF BULK AT MOST 1048576: true; the input reads as it did. -/
def skipBlanksUptoRow : OpenClaim := { program := "ytbkpklfjoifdbaagreat", sum := "b59f47bfd3b3c343fb09c8041f6a32372245f51ab05171e2137e71b150ec3e4a", func := "besom/besomlaw11.SkipBlanks", spec := "skipBlanks", inPlace := ["math/bits.Add64"], unfollowed := true, recurses := true, named := ["math/bits.divideError", "math/bits.overflowError"], plainKeys := false, apart := false, narrowed := true }
def SkipBlanksUptoSaid : Prop := skipBlanksUptoRow.holds Tryz.pinned (OpenSpec.upto skipBlanksSpec)

/-- 'besomlaw11.SkipNames', WHERE WHAT IT READS IS OF BULK AT MOST 1048576: true; the input reads as it did. -/
def skipNamesUptoRow : OpenClaim := { program := "ytbkpklfjoifdbaagreat", sum := "b59f47bfd3b3c343fb09c8041f6a32372245f51ab05171e2137e71b150ec3e4a", func := "besom/besomlaw11.SkipNames", spec := "skipNames", inPlace := ["math/bits.Add64"], unfollowed := true, recurses := true, named := ["math/bits.divideError", "math/bits.overflowError"], plainKeys := false, apart := false, narrowed := true }
def SkipNamesUptoSaid : Prop := skipNamesUptoRow.holds Tryz.pinned (OpenSpec.upto skipNamesSpec)

end Rows
end Go.Proofs.YtbkpklfjoifdbaaGreat
