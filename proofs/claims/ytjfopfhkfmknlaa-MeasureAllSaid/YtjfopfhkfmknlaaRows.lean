/-
  No cell of these rows narrows 'for every input' (looked for: loops, veiled, ifaces, maps, wideKeys, modest, calm, conditions, laid).
  DERIVED. THE GIVEN ROWS OF THIS SEAT. 7 by the template 'for every input the law returns true; each argument reads behind the call as it read before'; 0 by the template 'total and deterministic' (their statements: YtjfopfhkfmknlaaTotals.lean).
  GIVEN WITH THE SEED: the statements are not yours to turn. If you find one false, say at which input.
  Laid BY PROGRAM, IN A SANDBOX (cutbox-rows.mjs): the forced cells as the released guide's own fill.sh prints them over the translation cd218d1f15a14d57… (all of the seat's roots in one cut). By AI agents, Wed Nov 11 2026. No macro, syntax, notation, axiom, sorry.
-/
import Derived.Test.YtjfopfhkfmknlaaChecked
import GoSem.Claim
import GoSem.ClaimJoined
import GoSem.ClaimMapViews
import Derived.JoinedTies
import Derived.KernelRfl
namespace Go.Proofs.Ytjfopfhkfmknlaa
/- THE CELL 'sum', in the pinned program and in every row, IS THE sha256 OF THE DUMP (.gsa) THAT YtjfopfhkfmknlaaProg.lean LOADS. Nothing in Lean hashes anything: it is a label: what it is worth is what the hold of that sum in a sandbox is worth. -/
noncomputable def Try.pinned : Pinned := { name := "ytjfopfhkfmknlaa", sum := "cd218d1f15a14d572b6637e0872eeb5073dec204ce77f182e00672df68c55bde", checked := Try.checked }
namespace Rows
def none {H : Type} : Left H := { results := [], args := [] }

/-- 'besomlaw06.MeasureAll': WHATEVER THE INPUT: true; the input reads as it did. -/
def measureAllSpec : ChangeSpec := { name := "measureAll", fn := fun _ => fun
  | [d1, d2, d3, d4] => { results := [.lit (.bool true)], args := [d1, d2, d3, d4] }
  | _ => none }
def measureAllRow : OpenClaim := { program := "ytjfopfhkfmknlaa", sum := "cd218d1f15a14d572b6637e0872eeb5073dec204ce77f182e00672df68c55bde", func := "besom/besomlaw06.MeasureAll", spec := "measureAll", inPlace := ["math/bits.Add64"], unfollowed := true, recurses := true, named := ["math/bits.divideError", "math/bits.overflowError"], plainKeys := false, apart := false }
def MeasureAllSaid : Prop := measureAllRow.holds Try.pinned (OpenSpec.ofChange measureAllSpec)

/-- ITS FALSE NEIGHBOUR: 'it returns false'. Refute it at one input. -/
def measureAllWrong : ChangeSpec := { name := "measureAll", fn := fun _ => fun
  | [d1, d2, d3, d4] => { results := [.lit (.bool false)], args := [d1, d2, d3, d4] }
  | _ => none }
def MeasureAllWrongFalsely : Prop := measureAllRow.holds Try.pinned (OpenSpec.ofChange measureAllWrong)

/-- 'besomlaw06.MeasureBounds': WHATEVER THE INPUT: true; the input reads as it did. -/
def measureBoundsSpec : ChangeSpec := { name := "measureBounds", fn := fun _ => fun
  | [d1, d2, d3, d4] => { results := [.lit (.bool true)], args := [d1, d2, d3, d4] }
  | _ => none }
def measureBoundsRow : OpenClaim := { program := "ytjfopfhkfmknlaa", sum := "cd218d1f15a14d572b6637e0872eeb5073dec204ce77f182e00672df68c55bde", func := "besom/besomlaw06.MeasureBounds", spec := "measureBounds", inPlace := ["math/bits.Add64"], unfollowed := true, recurses := true, named := ["math/bits.divideError", "math/bits.overflowError"], plainKeys := false, apart := false }
def MeasureBoundsSaid : Prop := measureBoundsRow.holds Try.pinned (OpenSpec.ofChange measureBoundsSpec)

/-- ITS FALSE NEIGHBOUR: 'it returns false'. Refute it at one input. -/
def measureBoundsWrong : ChangeSpec := { name := "measureBounds", fn := fun _ => fun
  | [d1, d2, d3, d4] => { results := [.lit (.bool false)], args := [d1, d2, d3, d4] }
  | _ => none }
def MeasureBoundsWrongFalsely : Prop := measureBoundsRow.holds Try.pinned (OpenSpec.ofChange measureBoundsWrong)

/-- 'besomlaw06.MeasureSure': WHATEVER THE INPUT: true; the input reads as it did. -/
def measureSureSpec : ChangeSpec := { name := "measureSure", fn := fun _ => fun
  | [d1, d2, d3] => { results := [.lit (.bool true)], args := [d1, d2, d3] }
  | _ => none }
def measureSureRow : OpenClaim := { program := "ytjfopfhkfmknlaa", sum := "cd218d1f15a14d572b6637e0872eeb5073dec204ce77f182e00672df68c55bde", func := "besom/besomlaw06.MeasureSure", spec := "measureSure", inPlace := ["math/bits.Add64"], unfollowed := true, recurses := true, named := ["math/bits.divideError", "math/bits.overflowError"], plainKeys := false, apart := false }
def MeasureSureSaid : Prop := measureSureRow.holds Try.pinned (OpenSpec.ofChange measureSureSpec)

/-- ITS FALSE NEIGHBOUR: 'it returns false'. Refute it at one input. -/
def measureSureWrong : ChangeSpec := { name := "measureSure", fn := fun _ => fun
  | [d1, d2, d3] => { results := [.lit (.bool false)], args := [d1, d2, d3] }
  | _ => none }
def MeasureSureWrongFalsely : Prop := measureSureRow.holds Try.pinned (OpenSpec.ofChange measureSureWrong)

/-- 'besomlaw06.MeasureScores': WHATEVER THE INPUT: true; the input reads as it did. -/
def measureScoresSpec : ChangeSpec := { name := "measureScores", fn := fun _ => fun
  | [d1, d2] => { results := [.lit (.bool true)], args := [d1, d2] }
  | _ => none }
def measureScoresRow : OpenClaim := { program := "ytjfopfhkfmknlaa", sum := "cd218d1f15a14d572b6637e0872eeb5073dec204ce77f182e00672df68c55bde", func := "besom/besomlaw06.MeasureScores", spec := "measureScores", inPlace := ["math/bits.Add64"], unfollowed := true, recurses := true, named := ["math/bits.divideError", "math/bits.overflowError"], plainKeys := false, apart := false }
def MeasureScoresSaid : Prop := measureScoresRow.holds Try.pinned (OpenSpec.ofChange measureScoresSpec)

/-- ITS FALSE NEIGHBOUR: 'it returns false'. Refute it at one input. -/
def measureScoresWrong : ChangeSpec := { name := "measureScores", fn := fun _ => fun
  | [d1, d2] => { results := [.lit (.bool false)], args := [d1, d2] }
  | _ => none }
def MeasureScoresWrongFalsely : Prop := measureScoresRow.holds Try.pinned (OpenSpec.ofChange measureScoresWrong)

/-- 'besomlaw06.MeasureMore': WHATEVER THE INPUT: true; the input reads as it did. -/
def measureMoreSpec : ChangeSpec := { name := "measureMore", fn := fun _ => fun
  | [d1, d2, d3] => { results := [.lit (.bool true)], args := [d1, d2, d3] }
  | _ => none }
def measureMoreRow : OpenClaim := { program := "ytjfopfhkfmknlaa", sum := "cd218d1f15a14d572b6637e0872eeb5073dec204ce77f182e00672df68c55bde", func := "besom/besomlaw06.MeasureMore", spec := "measureMore", inPlace := ["math/bits.Add64"], unfollowed := true, recurses := true, named := ["math/bits.divideError", "math/bits.overflowError"], plainKeys := false, apart := false }
def MeasureMoreSaid : Prop := measureMoreRow.holds Try.pinned (OpenSpec.ofChange measureMoreSpec)

/-- ITS FALSE NEIGHBOUR: 'it returns false'. Refute it at one input. -/
def measureMoreWrong : ChangeSpec := { name := "measureMore", fn := fun _ => fun
  | [d1, d2, d3] => { results := [.lit (.bool false)], args := [d1, d2, d3] }
  | _ => none }
def MeasureMoreWrongFalsely : Prop := measureMoreRow.holds Try.pinned (OpenSpec.ofChange measureMoreWrong)

/-- 'besomlaw06.MeasureDoubtless': WHATEVER THE INPUT: true; the input reads as it did. -/
def measureDoubtlessSpec : ChangeSpec := { name := "measureDoubtless", fn := fun _ => fun
  | [d1, d2] => { results := [.lit (.bool true)], args := [d1, d2] }
  | _ => none }
def measureDoubtlessRow : OpenClaim := { program := "ytjfopfhkfmknlaa", sum := "cd218d1f15a14d572b6637e0872eeb5073dec204ce77f182e00672df68c55bde", func := "besom/besomlaw06.MeasureDoubtless", spec := "measureDoubtless", inPlace := ["math/bits.Add64"], unfollowed := true, recurses := true, named := ["math/bits.divideError", "math/bits.overflowError"], plainKeys := false, apart := false }
def MeasureDoubtlessSaid : Prop := measureDoubtlessRow.holds Try.pinned (OpenSpec.ofChange measureDoubtlessSpec)

/-- ITS FALSE NEIGHBOUR: 'it returns false'. Refute it at one input. -/
def measureDoubtlessWrong : ChangeSpec := { name := "measureDoubtless", fn := fun _ => fun
  | [d1, d2] => { results := [.lit (.bool false)], args := [d1, d2] }
  | _ => none }
def MeasureDoubtlessWrongFalsely : Prop := measureDoubtlessRow.holds Try.pinned (OpenSpec.ofChange measureDoubtlessWrong)

/-- 'besomlaw06.MeasureNames': WHATEVER THE INPUT: true; the input reads as it did. -/
def measureNamesSpec : ChangeSpec := { name := "measureNames", fn := fun _ => fun
  | [] => { results := [.lit (.bool true)], args := [] }
  | _ => none }
def measureNamesRow : OpenClaim := { program := "ytjfopfhkfmknlaa", sum := "cd218d1f15a14d572b6637e0872eeb5073dec204ce77f182e00672df68c55bde", func := "besom/besomlaw06.MeasureNames", spec := "measureNames", inPlace := ["math/bits.Add64"], unfollowed := true, recurses := true, named := ["math/bits.divideError", "math/bits.overflowError"], plainKeys := false, apart := false }
def MeasureNamesSaid : Prop := measureNamesRow.holds Try.pinned (OpenSpec.ofChange measureNamesSpec)

/-- ITS FALSE NEIGHBOUR: 'it returns false'. Refute it at one input. -/
def measureNamesWrong : ChangeSpec := { name := "measureNames", fn := fun _ => fun
  | [] => { results := [.lit (.bool false)], args := [] }
  | _ => none }
def MeasureNamesWrongFalsely : Prop := measureNamesRow.holds Try.pinned (OpenSpec.ofChange measureNamesWrong)

/- THE SECOND FORM. 'bulk': how many values and letters a reading holds, each counted each time it is reached (what is shared counts as often as it is met; a slice's spare places count too). A statement '..UptoSaid' is the law's where the arguments, and the package variables that the reading takes, are together of bulk at most 1048576: NARROWER than '..Said'. Prove '..Said' where nothing that the law and all that it calls make is longer than what came in: it says more and counts as full. Else prove '..UptoSaid'. A law counts once. -/
mutual
def uptoBulk {H : Type} : DataW H → Nat
  | .lit (.string bytes) => bytes.length + 1
  | .lit _ => 1
  | .nil => 1
  | .ptr d => uptoBulk d + 1
  | .slice elems spare => uptoBulkAll elems + uptoBulkAll spare + 1
  | .agg parts => uptoBulkAll parts + 1
  | .iface _ d => uptoBulk d + 1
  | .map entries => uptoBulkEntries entries + 1
  | .held _ => 1
def uptoBulkAll {H : Type} : List (DataW H) → Nat
  | [] => 0
  | d :: r => uptoBulk d + uptoBulkAll r
def uptoBulkEntries {H : Type} : List (Lit × DataW H) → Nat
  | [] => 0
  | x :: r => uptoBulkEntry x + uptoBulkEntries r
def uptoBulkEntry {H : Type} : Lit × DataW H → Nat
  | (.string bytes, d) => bytes.length + uptoBulk d + 1
  | (_, d) => uptoBulk d + 1
 end
def uptoSmall : (H : Type) → List (DataW H) → Bool := fun _ ds => decide (uptoBulkAll ds ≤ 1048576)
def OpenSpec.upto (s : _root_.Go.ChangeSpec) : _root_.Go.OpenSpec := { _root_.Go.OpenSpec.ofChange s with cond := some uptoSmall }

/-- 'besomlaw06.MeasureAll', WHERE WHAT IT READS IS OF BULK AT MOST 1048576: true; the input reads as it did. -/
def measureAllUptoRow : OpenClaim := { program := "ytjfopfhkfmknlaa", sum := "cd218d1f15a14d572b6637e0872eeb5073dec204ce77f182e00672df68c55bde", func := "besom/besomlaw06.MeasureAll", spec := "measureAll", inPlace := ["math/bits.Add64"], unfollowed := true, recurses := true, named := ["math/bits.divideError", "math/bits.overflowError"], plainKeys := false, apart := false, narrowed := true }
def MeasureAllUptoSaid : Prop := measureAllUptoRow.holds Try.pinned (OpenSpec.upto measureAllSpec)

/-- 'besomlaw06.MeasureBounds', WHERE WHAT IT READS IS OF BULK AT MOST 1048576: true; the input reads as it did. -/
def measureBoundsUptoRow : OpenClaim := { program := "ytjfopfhkfmknlaa", sum := "cd218d1f15a14d572b6637e0872eeb5073dec204ce77f182e00672df68c55bde", func := "besom/besomlaw06.MeasureBounds", spec := "measureBounds", inPlace := ["math/bits.Add64"], unfollowed := true, recurses := true, named := ["math/bits.divideError", "math/bits.overflowError"], plainKeys := false, apart := false, narrowed := true }
def MeasureBoundsUptoSaid : Prop := measureBoundsUptoRow.holds Try.pinned (OpenSpec.upto measureBoundsSpec)

/-- 'besomlaw06.MeasureSure', WHERE WHAT IT READS IS OF BULK AT MOST 1048576: true; the input reads as it did. -/
def measureSureUptoRow : OpenClaim := { program := "ytjfopfhkfmknlaa", sum := "cd218d1f15a14d572b6637e0872eeb5073dec204ce77f182e00672df68c55bde", func := "besom/besomlaw06.MeasureSure", spec := "measureSure", inPlace := ["math/bits.Add64"], unfollowed := true, recurses := true, named := ["math/bits.divideError", "math/bits.overflowError"], plainKeys := false, apart := false, narrowed := true }
def MeasureSureUptoSaid : Prop := measureSureUptoRow.holds Try.pinned (OpenSpec.upto measureSureSpec)

/-- 'besomlaw06.MeasureScores', WHERE WHAT IT READS IS OF BULK AT MOST 1048576: true; the input reads as it did. -/
def measureScoresUptoRow : OpenClaim := { program := "ytjfopfhkfmknlaa", sum := "cd218d1f15a14d572b6637e0872eeb5073dec204ce77f182e00672df68c55bde", func := "besom/besomlaw06.MeasureScores", spec := "measureScores", inPlace := ["math/bits.Add64"], unfollowed := true, recurses := true, named := ["math/bits.divideError", "math/bits.overflowError"], plainKeys := false, apart := false, narrowed := true }
def MeasureScoresUptoSaid : Prop := measureScoresUptoRow.holds Try.pinned (OpenSpec.upto measureScoresSpec)

/-- 'besomlaw06.MeasureMore', WHERE WHAT IT READS IS OF BULK AT MOST 1048576: true; the input reads as it did. -/
def measureMoreUptoRow : OpenClaim := { program := "ytjfopfhkfmknlaa", sum := "cd218d1f15a14d572b6637e0872eeb5073dec204ce77f182e00672df68c55bde", func := "besom/besomlaw06.MeasureMore", spec := "measureMore", inPlace := ["math/bits.Add64"], unfollowed := true, recurses := true, named := ["math/bits.divideError", "math/bits.overflowError"], plainKeys := false, apart := false, narrowed := true }
def MeasureMoreUptoSaid : Prop := measureMoreUptoRow.holds Try.pinned (OpenSpec.upto measureMoreSpec)

/-- 'besomlaw06.MeasureDoubtless', WHERE WHAT IT READS IS OF BULK AT MOST 1048576: true; the input reads as it did. -/
def measureDoubtlessUptoRow : OpenClaim := { program := "ytjfopfhkfmknlaa", sum := "cd218d1f15a14d572b6637e0872eeb5073dec204ce77f182e00672df68c55bde", func := "besom/besomlaw06.MeasureDoubtless", spec := "measureDoubtless", inPlace := ["math/bits.Add64"], unfollowed := true, recurses := true, named := ["math/bits.divideError", "math/bits.overflowError"], plainKeys := false, apart := false, narrowed := true }
def MeasureDoubtlessUptoSaid : Prop := measureDoubtlessUptoRow.holds Try.pinned (OpenSpec.upto measureDoubtlessSpec)

/-- 'besomlaw06.MeasureNames', WHERE WHAT IT READS IS OF BULK AT MOST 1048576: true; the input reads as it did. -/
def measureNamesUptoRow : OpenClaim := { program := "ytjfopfhkfmknlaa", sum := "cd218d1f15a14d572b6637e0872eeb5073dec204ce77f182e00672df68c55bde", func := "besom/besomlaw06.MeasureNames", spec := "measureNames", inPlace := ["math/bits.Add64"], unfollowed := true, recurses := true, named := ["math/bits.divideError", "math/bits.overflowError"], plainKeys := false, apart := false, narrowed := true }
def MeasureNamesUptoSaid : Prop := measureNamesUptoRow.holds Try.pinned (OpenSpec.upto measureNamesSpec)

end Rows
end Go.Proofs.Ytjfopfhkfmknlaa
