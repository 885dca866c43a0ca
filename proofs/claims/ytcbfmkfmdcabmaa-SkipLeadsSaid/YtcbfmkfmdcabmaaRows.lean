/-
  No cell of these rows narrows 'for every input' (looked for: loops, veiled, ifaces, maps, wideKeys, modest, calm, conditions, laid).
  DERIVED. THE GIVEN ROWS OF THIS SEAT. 5 by the template 'for every input the law returns true; each argument reads behind the call as it read before'; 0 by the template 'total and deterministic' (their statements: YtcbfmkfmdcabmaaTotals.lean).
  GIVEN WITH THE SEED: the statements are not yours to turn. If you find one false, say at which input.
  Laid BY PROGRAM, IN A SANDBOX (cutbox-rows.mjs): the forced cells as the released guide's own fill.sh prints them over the translation 05c1a26d10ff122e… (all of the seat's roots in one cut). By AI agents, Wed Nov 11 2026. No macro, syntax, notation, axiom, sorry.
-/
import Derived.Test.YtcbfmkfmdcabmaaChecked
import GoSem.Claim
import GoSem.ClaimJoined
import GoSem.ClaimMapViews
import Derived.JoinedTies
import Derived.KernelRfl
namespace Go.Proofs.Ytcbfmkfmdcabmaa
/- THE CELL 'sum', in the pinned program and in every row, IS THE sha256 OF THE DUMP (.gsa) THAT YtcbfmkfmdcabmaaProg.lean LOADS. Nothing in Lean hashes anything: it is a label: what it is worth is what the hold of that sum in a sandbox is worth. -/
noncomputable def Try.pinned : Pinned := { name := "ytcbfmkfmdcabmaa", sum := "05c1a26d10ff122e40f580663ca346a717096667b3821e4993e7b2df32836915", checked := Try.checked }
namespace Rows
def none {H : Type} : Left H := { results := [], args := [] }

/-- 'besomlaw11.SkipStates': WHATEVER THE INPUT: true; the input reads as it did. -/
def skipStatesSpec : ChangeSpec := { name := "skipStates", fn := fun _ => fun
  | [d1, d2, d3] => { results := [.lit (.bool true)], args := [d1, d2, d3] }
  | _ => none }
def skipStatesRow : OpenClaim := { program := "ytcbfmkfmdcabmaa", sum := "05c1a26d10ff122e40f580663ca346a717096667b3821e4993e7b2df32836915", func := "besom/besomlaw11.SkipStates", spec := "skipStates", inPlace := ["math/bits.Add64"], unfollowed := true, recurses := true, named := ["math/bits.divideError", "math/bits.overflowError"], plainKeys := false, apart := false }
def SkipStatesSaid : Prop := skipStatesRow.holds Try.pinned (OpenSpec.ofChange skipStatesSpec)

/-- ITS FALSE NEIGHBOUR: 'it returns false'. Refute it at one input. -/
def skipStatesWrong : ChangeSpec := { name := "skipStates", fn := fun _ => fun
  | [d1, d2, d3] => { results := [.lit (.bool false)], args := [d1, d2, d3] }
  | _ => none }
def SkipStatesWrongFalsely : Prop := skipStatesRow.holds Try.pinned (OpenSpec.ofChange skipStatesWrong)

/-- 'besomlaw11.SkipBetween': WHATEVER THE INPUT: true; the input reads as it did. -/
def skipBetweenSpec : ChangeSpec := { name := "skipBetween", fn := fun _ => fun
  | [d1, d2, d3] => { results := [.lit (.bool true)], args := [d1, d2, d3] }
  | _ => none }
def skipBetweenRow : OpenClaim := { program := "ytcbfmkfmdcabmaa", sum := "05c1a26d10ff122e40f580663ca346a717096667b3821e4993e7b2df32836915", func := "besom/besomlaw11.SkipBetween", spec := "skipBetween", inPlace := ["math/bits.Add64"], unfollowed := true, recurses := true, named := ["math/bits.divideError", "math/bits.overflowError"], plainKeys := false, apart := false }
def SkipBetweenSaid : Prop := skipBetweenRow.holds Try.pinned (OpenSpec.ofChange skipBetweenSpec)

/-- ITS FALSE NEIGHBOUR: 'it returns false'. Refute it at one input. -/
def skipBetweenWrong : ChangeSpec := { name := "skipBetween", fn := fun _ => fun
  | [d1, d2, d3] => { results := [.lit (.bool false)], args := [d1, d2, d3] }
  | _ => none }
def SkipBetweenWrongFalsely : Prop := skipBetweenRow.holds Try.pinned (OpenSpec.ofChange skipBetweenWrong)

/-- 'besomlaw11.SkipLeads': WHATEVER THE INPUT: true; the input reads as it did. -/
def skipLeadsSpec : ChangeSpec := { name := "skipLeads", fn := fun _ => fun
  | [d1, d2, d3, d4] => { results := [.lit (.bool true)], args := [d1, d2, d3, d4] }
  | _ => none }
def skipLeadsRow : OpenClaim := { program := "ytcbfmkfmdcabmaa", sum := "05c1a26d10ff122e40f580663ca346a717096667b3821e4993e7b2df32836915", func := "besom/besomlaw11.SkipLeads", spec := "skipLeads", inPlace := ["math/bits.Add64"], unfollowed := true, recurses := true, named := ["math/bits.divideError", "math/bits.overflowError"], plainKeys := false, apart := false }
def SkipLeadsSaid : Prop := skipLeadsRow.holds Try.pinned (OpenSpec.ofChange skipLeadsSpec)

/-- ITS FALSE NEIGHBOUR: 'it returns false'. Refute it at one input. -/
def skipLeadsWrong : ChangeSpec := { name := "skipLeads", fn := fun _ => fun
  | [d1, d2, d3, d4] => { results := [.lit (.bool false)], args := [d1, d2, d3, d4] }
  | _ => none }
def SkipLeadsWrongFalsely : Prop := skipLeadsRow.holds Try.pinned (OpenSpec.ofChange skipLeadsWrong)

/-- 'besomlaw11.SkipMirrors': WHATEVER THE INPUT: true; the input reads as it did. -/
def skipMirrorsSpec : ChangeSpec := { name := "skipMirrors", fn := fun _ => fun
  | [d1, d2] => { results := [.lit (.bool true)], args := [d1, d2] }
  | _ => none }
def skipMirrorsRow : OpenClaim := { program := "ytcbfmkfmdcabmaa", sum := "05c1a26d10ff122e40f580663ca346a717096667b3821e4993e7b2df32836915", func := "besom/besomlaw11.SkipMirrors", spec := "skipMirrors", inPlace := ["math/bits.Add64"], unfollowed := true, recurses := true, named := ["math/bits.divideError", "math/bits.overflowError"], plainKeys := false, apart := false }
def SkipMirrorsSaid : Prop := skipMirrorsRow.holds Try.pinned (OpenSpec.ofChange skipMirrorsSpec)

/-- ITS FALSE NEIGHBOUR: 'it returns false'. Refute it at one input. -/
def skipMirrorsWrong : ChangeSpec := { name := "skipMirrors", fn := fun _ => fun
  | [d1, d2] => { results := [.lit (.bool false)], args := [d1, d2] }
  | _ => none }
def SkipMirrorsWrongFalsely : Prop := skipMirrorsRow.holds Try.pinned (OpenSpec.ofChange skipMirrorsWrong)

/-- 'besomlaw11.SkipChosen': WHATEVER THE INPUT: true; the input reads as it did. -/
def skipChosenSpec : ChangeSpec := { name := "skipChosen", fn := fun _ => fun
  | [d1, d2] => { results := [.lit (.bool true)], args := [d1, d2] }
  | _ => none }
def skipChosenRow : OpenClaim := { program := "ytcbfmkfmdcabmaa", sum := "05c1a26d10ff122e40f580663ca346a717096667b3821e4993e7b2df32836915", func := "besom/besomlaw11.SkipChosen", spec := "skipChosen", inPlace := ["math/bits.Add64"], unfollowed := true, recurses := true, named := ["math/bits.divideError", "math/bits.overflowError"], plainKeys := false, apart := false }
def SkipChosenSaid : Prop := skipChosenRow.holds Try.pinned (OpenSpec.ofChange skipChosenSpec)

/-- ITS FALSE NEIGHBOUR: 'it returns false'. Refute it at one input. -/
def skipChosenWrong : ChangeSpec := { name := "skipChosen", fn := fun _ => fun
  | [d1, d2] => { results := [.lit (.bool false)], args := [d1, d2] }
  | _ => none }
def SkipChosenWrongFalsely : Prop := skipChosenRow.holds Try.pinned (OpenSpec.ofChange skipChosenWrong)

/- THE SECOND FORM. 'bulk': how many values and letters a reading holds, each counted each time it is reached (what is shared counts as often as it is met; a slice's spare places count too). A statement '..UptoSaid' is the law's where the arguments, and the package variables that the reading takes, are together of bulk at most 1048576: NARROWER than '..Said'. Prove '..Said' where nothing that the law and all that it calls make is longer than what came in: it says more and counts as full. Else prove '..UptoSaid'. A law counts once. -/
mutual
def uptoBulk {H : Type} : DataW H → Nat
  | .lit (.string bytes) => bytes.length + 1
  | .lit _ => 1
  | .nil => 1
  | .ptr d => uptoBulk d + 1
  | .slice elems spare => uptoBulkAll elems + uptoBulkAll spare + 1
  | .agg parts => uptoBulkAll parts + 1
  | .iface _ d => uptoBulk d + 1
  | .map entries => uptoBulkEntries entries + 1
  | .held _ => 1
def uptoBulkAll {H : Type} : List (DataW H) → Nat
  | [] => 0
  | d :: r => uptoBulk d + uptoBulkAll r
def uptoBulkEntries {H : Type} : List (Lit × DataW H) → Nat
  | [] => 0
  | x :: r => uptoBulkEntry x + uptoBulkEntries r
def uptoBulkEntry {H : Type} : Lit × DataW H → Nat
  | (.string bytes, d) => bytes.length + uptoBulk d + 1
  | (_, d) => uptoBulk d + 1
 end
def uptoSmall : (H : Type) → List (DataW H) → Bool := fun _ ds => decide (uptoBulkAll ds ≤ 1048576)
def OpenSpec.upto (s : _root_.Go.ChangeSpec) : _root_.Go.OpenSpec := { _root_.Go.OpenSpec.ofChange s with cond := some uptoSmall }

/-- 'besomlaw11.SkipStates', WHERE WHAT IT READS IS OF BULK AT MOST 1048576: true; the input reads as it did. -/
def skipStatesUptoRow : OpenClaim := { program := "ytcbfmkfmdcabmaa", sum := "05c1a26d10ff122e40f580663ca346a717096667b3821e4993e7b2df32836915", func := "besom/besomlaw11.SkipStates", spec := "skipStates", inPlace := ["math/bits.Add64"], unfollowed := true, recurses := true, named := ["math/bits.divideError", "math/bits.overflowError"], plainKeys := false, apart := false, narrowed := true }
def SkipStatesUptoSaid : Prop := skipStatesUptoRow.holds Try.pinned (OpenSpec.upto skipStatesSpec)

/-- 'besomlaw11.SkipBetween', WHERE WHAT IT READS IS OF BULK AT MOST 1048576: true; the input reads as it did. -/
def skipBetweenUptoRow : OpenClaim := { program := "ytcbfmkfmdcabmaa", sum := "05c1a26d10ff122e40f580663ca346a717096667b3821e4993e7b2df32836915", func := "besom/besomlaw11.SkipBetween", spec := "skipBetween", inPlace := ["math/bits.Add64"], unfollowed := true, recurses := true, named := ["math/bits.divideError", "math/bits.overflowError"], plainKeys := false, apart := false, narrowed := true }
def SkipBetweenUptoSaid : Prop := skipBetweenUptoRow.holds Try.pinned (OpenSpec.upto skipBetweenSpec)

/-- 'besomlaw11.SkipLeads', WHERE WHAT IT READS IS OF BULK AT MOST 1048576: true; the input reads as it did. -/
def skipLeadsUptoRow : OpenClaim := { program := "ytcbfmkfmdcabmaa", sum := "05c1a26d10ff122e40f580663ca346a717096667b3821e4993e7b2df32836915", func := "besom/besomlaw11.SkipLeads", spec := "skipLeads", inPlace := ["math/bits.Add64"], unfollowed := true, recurses := true, named := ["math/bits.divideError", "math/bits.overflowError"], plainKeys := false, apart := false, narrowed := true }
def SkipLeadsUptoSaid : Prop := skipLeadsUptoRow.holds Try.pinned (OpenSpec.upto skipLeadsSpec)

/-- 'besomlaw11.SkipMirrors', WHERE WHAT IT READS IS OF BULK AT MOST 1048576: true; the input reads as it did. -/
def skipMirrorsUptoRow : OpenClaim := { program := "ytcbfmkfmdcabmaa", sum := "05c1a26d10ff122e40f580663ca346a717096667b3821e4993e7b2df32836915", func := "besom/besomlaw11.SkipMirrors", spec := "skipMirrors", inPlace := ["math/bits.Add64"], unfollowed := true, recurses := true, named := ["math/bits.divideError", "math/bits.overflowError"], plainKeys := false, apart := false, narrowed := true }
def SkipMirrorsUptoSaid : Prop := skipMirrorsUptoRow.holds Try.pinned (OpenSpec.upto skipMirrorsSpec)

/-- 'besomlaw11.SkipChosen', WHERE WHAT IT READS IS OF BULK AT MOST 1048576: true; the input reads as it did. -/
def skipChosenUptoRow : OpenClaim := { program := "ytcbfmkfmdcabmaa", sum := "05c1a26d10ff122e40f580663ca346a717096667b3821e4993e7b2df32836915", func := "besom/besomlaw11.SkipChosen", spec := "skipChosen", inPlace := ["math/bits.Add64"], unfollowed := true, recurses := true, named := ["math/bits.divideError", "math/bits.overflowError"], plainKeys := false, apart := false, narrowed := true }
def SkipChosenUptoSaid : Prop := skipChosenUptoRow.holds Try.pinned (OpenSpec.upto skipChosenSpec)

end Rows
end Go.Proofs.Ytcbfmkfmdcabmaa
