/-
  No cell of these rows narrows 'for every input' (looked for: loops, veiled, ifaces, maps, wideKeys, modest, calm, conditions, laid).
  DERIVED. THE GIVEN ROWS OF THIS SEAT. 4 by the template 'for every input the law returns true; each argument reads behind the call as it read before'; 0 by the template 'total and deterministic' (their statements: YtbcjhjidhhecaaaGreatTotals.lean).
  GIVEN WITH THE SEED: the statements are not yours to turn. If you find one false, say at which input.
  Laid BY PROGRAM, IN A SANDBOX (cutbox-rows.mjs): the forced cells as the released guide's own fill.sh prints them over the translation 915b38eef10ae667… (all of the seat's roots in one cut). By AI agents, Wed Nov 11 2026. No macro, syntax, notation, axiom, sorry.
-/
import Derived.Test.YtbcjhjidhhecaaaGreatChecked
import GoSem.Claim
import GoSem.ClaimJoined
import GoSem.ClaimMapViews
import Derived.JoinedTies
import Derived.KernelRfl
namespace Go.Proofs.YtbcjhjidhhecaaaGreat
/- THE CELL 'sum', in the pinned program and in every row, IS THE sha256 OF THE DUMP (.gsa) THAT YtbcjhjidhhecaaaGreatProg.lean LOADS. Nothing in Lean hashes anything: it is a label: what it is worth is what the hold of that sum in a sandbox is worth. -/
noncomputable def Tryz.pinned : Pinned := { name := "ytbcjhjidhhecaaagreat", sum := "915b38eef10ae6675a1163212a407fe1f35e5d92c4926e5f85fb7657f4eb2707", checked := Tryz.checked }
namespace Rows
def none {H : Type} : Left H := { results := [], args := [] }

/-- 'besomlaw03.IceWeights': WHATEVER THE INPUT: true; the input reads as it did. -/
def iceWeightsSpec : ChangeSpec := { name := "iceWeights", fn := fun _ => fun
  | [d1, d2, d3, d4] => { results := [.lit (.bool true)], args := [d1, d2, d3, d4] }
  | _ => none }
def iceWeightsRow : OpenClaim := { program := "ytbcjhjidhhecaaagreat", sum := "915b38eef10ae6675a1163212a407fe1f35e5d92c4926e5f85fb7657f4eb2707", func := "besom/besomlaw03.IceWeights", spec := "iceWeights", inPlace := ["math/bits.Add64"], unfollowed := true, recurses := true, named := ["math/bits.divideError", "math/bits.overflowError"], apart := false }
def IceWeightsSaid : Prop := iceWeightsRow.holds Tryz.pinned (OpenSpec.ofChange iceWeightsSpec)

/-- ITS FALSE NEIGHBOUR: 'it returns false'. Refute it at one input. -/
def iceWeightsWrong : ChangeSpec := { name := "iceWeights", fn := fun _ => fun
  | [d1, d2, d3, d4] => { results := [.lit (.bool false)], args := [d1, d2, d3, d4] }
  | _ => none }
def IceWeightsWrongFalsely : Prop := iceWeightsRow.holds Tryz.pinned (OpenSpec.ofChange iceWeightsWrong)

/-- 'besomlaw03.IceChecks': WHATEVER THE INPUT: true; the input reads as it did. -/
def iceChecksSpec : ChangeSpec := { name := "iceChecks", fn := fun _ => fun
  | [d1, d2, d3] => { results := [.lit (.bool true)], args := [d1, d2, d3] }
  | _ => none }
def iceChecksRow : OpenClaim := { program := "ytbcjhjidhhecaaagreat", sum := "915b38eef10ae6675a1163212a407fe1f35e5d92c4926e5f85fb7657f4eb2707", func := "besom/besomlaw03.IceChecks", spec := "iceChecks", inPlace := ["math/bits.Add64"], unfollowed := true, recurses := true, named := ["math/bits.divideError", "math/bits.overflowError"], apart := false }
def IceChecksSaid : Prop := iceChecksRow.holds Tryz.pinned (OpenSpec.ofChange iceChecksSpec)

/-- ITS FALSE NEIGHBOUR: 'it returns false'. Refute it at one input. -/
def iceChecksWrong : ChangeSpec := { name := "iceChecks", fn := fun _ => fun
  | [d1, d2, d3] => { results := [.lit (.bool false)], args := [d1, d2, d3] }
  | _ => none }
def IceChecksWrongFalsely : Prop := iceChecksRow.holds Tryz.pinned (OpenSpec.ofChange iceChecksWrong)

/-- 'besomlaw03.IceWays': WHATEVER THE INPUT: true; the input reads as it did. -/
def iceWaysSpec : ChangeSpec := { name := "iceWays", fn := fun _ => fun
  | [d1, d2, d3, d4, d5] => { results := [.lit (.bool true)], args := [d1, d2, d3, d4, d5] }
  | _ => none }
def iceWaysRow : OpenClaim := { program := "ytbcjhjidhhecaaagreat", sum := "915b38eef10ae6675a1163212a407fe1f35e5d92c4926e5f85fb7657f4eb2707", func := "besom/besomlaw03.IceWays", spec := "iceWays", inPlace := ["math/bits.Add64"], unfollowed := true, recurses := true, named := ["math/bits.divideError", "math/bits.overflowError"], apart := false }
def IceWaysSaid : Prop := iceWaysRow.holds Tryz.pinned (OpenSpec.ofChange iceWaysSpec)

/-- ITS FALSE NEIGHBOUR: 'it returns false'. Refute it at one input. -/
def iceWaysWrong : ChangeSpec := { name := "iceWays", fn := fun _ => fun
  | [d1, d2, d3, d4, d5] => { results := [.lit (.bool false)], args := [d1, d2, d3, d4, d5] }
  | _ => none }
def IceWaysWrongFalsely : Prop := iceWaysRow.holds Tryz.pinned (OpenSpec.ofChange iceWaysWrong)

/-- 'besomlaw03.IceMaker': WHATEVER THE INPUT: true; the input reads as it did. -/
def iceMakerSpec : ChangeSpec := { name := "iceMaker", fn := fun _ => fun
  | [d1, d2, d3, d4, d5] => { results := [.lit (.bool true)], args := [d1, d2, d3, d4, d5] }
  | _ => none }
def iceMakerRow : OpenClaim := { program := "ytbcjhjidhhecaaagreat", sum := "915b38eef10ae6675a1163212a407fe1f35e5d92c4926e5f85fb7657f4eb2707", func := "besom/besomlaw03.IceMaker", spec := "iceMaker", inPlace := ["math/bits.Add64"], unfollowed := true, recurses := true, named := ["math/bits.divideError", "math/bits.overflowError"], apart := false }
def IceMakerSaid : Prop := iceMakerRow.holds Tryz.pinned (OpenSpec.ofChange iceMakerSpec)

/-- ITS FALSE NEIGHBOUR: 'it returns false'. Refute it at one input. -/
def iceMakerWrong : ChangeSpec := { name := "iceMaker", fn := fun _ => fun
  | [d1, d2, d3, d4, d5] => { results := [.lit (.bool false)], args := [d1, d2, d3, d4, d5] }
  | _ => none }
def IceMakerWrongFalsely : Prop := iceMakerRow.holds Tryz.pinned (OpenSpec.ofChange iceMakerWrong)

/- THE SECOND FORM. 'bulk': how many values and letters a reading holds, each counted each time it is reached (what is shared counts as often as it is met; a slice's spare places count too). A statement '..UptoSaid' is the law's where the arguments, and the package variables that the reading takes, are together of bulk at most 1048576: NARROWER than '..Said'. Prove '..Said' where nothing that the law and all that it calls make is longer than what came in: it says more and counts as full. Else prove '..UptoSaid'. A law counts once. -/
mutual
def uptoBulk {H : Type} : DataW H → Nat
  | .lit (.string bytes) => bytes.length + 1
  | .lit _ => 1
  | .nil => 1
  | .ptr d => uptoBulk d + 1
  | .slice elems spare => uptoBulkAll elems + uptoBulkAll spare + 1
  | .agg parts => uptoBulkAll parts + 1
  | .iface _ d => uptoBulk d + 1
  | .map entries => uptoBulkEntries entries + 1
  | .held _ => 1
def uptoBulkAll {H : Type} : List (DataW H) → Nat
  | [] => 0
  | d :: r => uptoBulk d + uptoBulkAll r
def uptoBulkEntries {H : Type} : List (Lit × DataW H) → Nat
  | [] => 0
  | x :: r => uptoBulkEntry x + uptoBulkEntries r
def uptoBulkEntry {H : Type} : Lit × DataW H → Nat
  | (.string bytes, d) => bytes.length + uptoBulk d + 1
  | (_, d) => uptoBulk d + 1
 end
def uptoSmall : (H : Type) → List (DataW H) → Bool := fun _ ds => decide (uptoBulkAll ds ≤ 1048576)
def OpenSpec.upto (s : _root_.Go.ChangeSpec) : _root_.Go.OpenSpec := { _root_.Go.OpenSpec.ofChange s with cond := some uptoSmall }

/-- 'besomlaw03.IceWeights', WHERE WHAT IT READS IS OF BULK AT MOST 1048576: true; the input reads as it did. -/
def iceWeightsUptoRow : OpenClaim := { program := "ytbcjhjidhhecaaagreat", sum := "915b38eef10ae6675a1163212a407fe1f35e5d92c4926e5f85fb7657f4eb2707", func := "besom/besomlaw03.IceWeights", spec := "iceWeights", inPlace := ["math/bits.Add64"], unfollowed := true, recurses := true, named := ["math/bits.divideError", "math/bits.overflowError"], apart := false, narrowed := true }
def IceWeightsUptoSaid : Prop := iceWeightsUptoRow.holds Tryz.pinned (OpenSpec.upto iceWeightsSpec)

/-- 'besomlaw03.IceChecks', WHERE WHAT IT READS IS OF BULK AT MOST 1048576: true; the input reads as it did. -/
def iceChecksUptoRow : OpenClaim := { program := "ytbcjhjidhhecaaagreat", sum := "915b38eef10ae6675a1163212a407fe1f35e5d92c4926e5f85fb7657f4eb2707", func := "besom/besomlaw03.IceChecks", spec := "iceChecks", inPlace := ["math/bits.Add64"], unfollowed := true, recurses := true, named := ["math/bits.divideError", "math/bits.overflowError"], apart := false, narrowed := true }
def IceChecksUptoSaid : Prop := iceChecksUptoRow.holds Tryz.pinned (OpenSpec.upto iceChecksSpec)

/-- 'besomlaw03.IceWays', WHERE WHAT IT READS IS OF BULK AT MOST 1048576: true; the input reads as it did. -/
def iceWaysUptoRow : OpenClaim := { program := "ytbcjhjidhhecaaagreat", sum := "915b38eef10ae6675a1163212a407fe1f35e5d92c4926e5f85fb7657f4eb2707", func := "besom/besomlaw03.IceWays", spec := "iceWays", inPlace := ["math/bits.Add64"], unfollowed := true, recurses := true, named := ["math/bits.divideError", "math/bits.overflowError"], apart := false, narrowed := true }
def IceWaysUptoSaid : Prop := iceWaysUptoRow.holds Tryz.pinned (OpenSpec.upto iceWaysSpec)

/-- 'besomlaw03.IceMaker', WHERE WHAT IT READS IS OF BULK AT MOST 1048576: true; the input reads as it did. -/
def iceMakerUptoRow : OpenClaim := { program := "ytbcjhjidhhecaaagreat", sum := "915b38eef10ae6675a1163212a407fe1f35e5d92c4926e5f85fb7657f4eb2707", func := "besom/besomlaw03.IceMaker", spec := "iceMaker", inPlace := ["math/bits.Add64"], unfollowed := true, recurses := true, named := ["math/bits.divideError", "math/bits.overflowError"], apart := false, narrowed := true }
def IceMakerUptoSaid : Prop := iceMakerUptoRow.holds Tryz.pinned (OpenSpec.upto iceMakerSpec)

end Rows
end Go.Proofs.YtbcjhjidhhecaaaGreat
