/-
  No cell of these rows narrows 'for every input' (looked for: loops, veiled, ifaces, maps, wideKeys, modest, calm, conditions, laid).
  DERIVED. THE GIVEN ROWS OF THIS SEAT. 9 by the template 'for every input the law returns true; each argument reads behind the call as it read before'; 0 by the template 'total and deterministic' (their statements: YtgpljldfbhkdlaaGreatTotals.lean).
  GIVEN WITH THE SEED: the statements are not yours to turn. If you find one false, say at which input.
  Laid BY PROGRAM, IN A SANDBOX (cutbox-rows.mjs): the forced cells as the released guide's own fill.sh prints them over the translation 3a2f44f283441d46… (all of the seat's roots in one cut). By AI agents, Wed Nov 11 2026. No macro, syntax, notation, axiom, sorry.
-/
import Derived.Test.YtgpljldfbhkdlaaGreatChecked
import GoSem.Claim
import GoSem.ClaimJoined
import GoSem.ClaimMapViews
import Derived.JoinedTies
import Derived.KernelRfl
namespace Go.Proofs.YtgpljldfbhkdlaaGreat
/- THE CELL 'sum', in the pinned program and in every row, IS THE sha256 OF THE DUMP (.gsa) THAT YtgpljldfbhkdlaaGreatProg.lean LOADS. Nothing in Lean hashes anything: it is a label: what it is worth is what the hold of that sum in a sandbox is worth. -/
noncomputable def Tryz.pinned : Pinned := { name := "ytgpljldfbhkdlaagreat", sum := "3a2f44f283441d46da2b6f1c2208eea4fd51507ea0c7bfee28e3e7efe71b1a15", checked := Tryz.checked }
namespace Rows
def none {H : Type} : Left H := { results := [], args := [] }

/-- 'besomlaw04.GlideMirrors': WHATEVER THE INPUT: true; the input reads as it did. -/
def glideMirrorsSpec : ChangeSpec := { name := "glideMirrors", fn := fun _ => fun
  | [d1, d2, d3, d4, d5, d6] => { results := [.lit (.bool true)], args := [d1, d2, d3, d4, d5, d6] }
  | _ => none }
def glideMirrorsRow : OpenClaim := { program := "ytgpljldfbhkdlaagreat", sum := "3a2f44f283441d46da2b6f1c2208eea4fd51507ea0c7bfee28e3e7efe71b1a15", func := "besom/besomlaw04.GlideMirrors", spec := "glideMirrors", inPlace := ["math/bits.Add64"], unfollowed := true, recurses := true, named := ["math/bits.divideError", "math/bits.overflowError"], apart := false }
def GlideMirrorsSaid : Prop := glideMirrorsRow.holds Tryz.pinned (OpenSpec.ofChange glideMirrorsSpec)

/-- ITS FALSE NEIGHBOUR: 'it returns false'. Refute it at one input. -/
def glideMirrorsWrong : ChangeSpec := { name := "glideMirrors", fn := fun _ => fun
  | [d1, d2, d3, d4, d5, d6] => { results := [.lit (.bool false)], args := [d1, d2, d3, d4, d5, d6] }
  | _ => none }
def GlideMirrorsWrongFalsely : Prop := glideMirrorsRow.holds Tryz.pinned (OpenSpec.ofChange glideMirrorsWrong)

/-- 'besomlaw04.GlideParted': WHATEVER THE INPUT: true; the input reads as it did. -/
def glidePartedSpec : ChangeSpec := { name := "glideParted", fn := fun _ => fun
  | [d1, d2, d3, d4, d5] => { results := [.lit (.bool true)], args := [d1, d2, d3, d4, d5] }
  | _ => none }
def glidePartedRow : OpenClaim := { program := "ytgpljldfbhkdlaagreat", sum := "3a2f44f283441d46da2b6f1c2208eea4fd51507ea0c7bfee28e3e7efe71b1a15", func := "besom/besomlaw04.GlideParted", spec := "glideParted", inPlace := ["math/bits.Add64"], unfollowed := true, recurses := true, named := ["math/bits.divideError", "math/bits.overflowError"], apart := false }
def GlidePartedSaid : Prop := glidePartedRow.holds Tryz.pinned (OpenSpec.ofChange glidePartedSpec)

/-- ITS FALSE NEIGHBOUR: 'it returns false'. Refute it at one input. -/
def glidePartedWrong : ChangeSpec := { name := "glideParted", fn := fun _ => fun
  | [d1, d2, d3, d4, d5] => { results := [.lit (.bool false)], args := [d1, d2, d3, d4, d5] }
  | _ => none }
def GlidePartedWrongFalsely : Prop := glidePartedRow.holds Tryz.pinned (OpenSpec.ofChange glidePartedWrong)

/-- 'besomlaw04.GlideStraight': WHATEVER THE INPUT: true; the input reads as it did. -/
def glideStraightSpec : ChangeSpec := { name := "glideStraight", fn := fun _ => fun
  | [d1, d2, d3, d4] => { results := [.lit (.bool true)], args := [d1, d2, d3, d4] }
  | _ => none }
def glideStraightRow : OpenClaim := { program := "ytgpljldfbhkdlaagreat", sum := "3a2f44f283441d46da2b6f1c2208eea4fd51507ea0c7bfee28e3e7efe71b1a15", func := "besom/besomlaw04.GlideStraight", spec := "glideStraight", inPlace := ["math/bits.Add64"], unfollowed := true, recurses := true, named := ["math/bits.divideError", "math/bits.overflowError"], apart := false }
def GlideStraightSaid : Prop := glideStraightRow.holds Tryz.pinned (OpenSpec.ofChange glideStraightSpec)

/-- ITS FALSE NEIGHBOUR: 'it returns false'. Refute it at one input. -/
def glideStraightWrong : ChangeSpec := { name := "glideStraight", fn := fun _ => fun
  | [d1, d2, d3, d4] => { results := [.lit (.bool false)], args := [d1, d2, d3, d4] }
  | _ => none }
def GlideStraightWrongFalsely : Prop := glideStraightRow.holds Tryz.pinned (OpenSpec.ofChange glideStraightWrong)

/-- 'besomlaw04.GlideFarther': WHATEVER THE INPUT: true; the input reads as it did. -/
def glideFartherSpec : ChangeSpec := { name := "glideFarther", fn := fun _ => fun
  | [d1, d2, d3, d4, d5, d6] => { results := [.lit (.bool true)], args := [d1, d2, d3, d4, d5, d6] }
  | _ => none }
def glideFartherRow : OpenClaim := { program := "ytgpljldfbhkdlaagreat", sum := "3a2f44f283441d46da2b6f1c2208eea4fd51507ea0c7bfee28e3e7efe71b1a15", func := "besom/besomlaw04.GlideFarther", spec := "glideFarther", inPlace := ["math/bits.Add64"], unfollowed := true, recurses := true, named := ["math/bits.divideError", "math/bits.overflowError"], apart := false }
def GlideFartherSaid : Prop := glideFartherRow.holds Tryz.pinned (OpenSpec.ofChange glideFartherSpec)

/-- ITS FALSE NEIGHBOUR: 'it returns false'. Refute it at one input. -/
def glideFartherWrong : ChangeSpec := { name := "glideFarther", fn := fun _ => fun
  | [d1, d2, d3, d4, d5, d6] => { results := [.lit (.bool false)], args := [d1, d2, d3, d4, d5, d6] }
  | _ => none }
def GlideFartherWrongFalsely : Prop := glideFartherRow.holds Tryz.pinned (OpenSpec.ofChange glideFartherWrong)

/-- 'besomlaw04.GlideSlows': WHATEVER THE INPUT: true; the input reads as it did. -/
def glideSlowsSpec : ChangeSpec := { name := "glideSlows", fn := fun _ => fun
  | [d1, d2, d3] => { results := [.lit (.bool true)], args := [d1, d2, d3] }
  | _ => none }
def glideSlowsRow : OpenClaim := { program := "ytgpljldfbhkdlaagreat", sum := "3a2f44f283441d46da2b6f1c2208eea4fd51507ea0c7bfee28e3e7efe71b1a15", func := "besom/besomlaw04.GlideSlows", spec := "glideSlows", inPlace := ["math/bits.Add64"], unfollowed := true, recurses := true, named := ["math/bits.divideError", "math/bits.overflowError"], apart := false }
def GlideSlowsSaid : Prop := glideSlowsRow.holds Tryz.pinned (OpenSpec.ofChange glideSlowsSpec)

/-- ITS FALSE NEIGHBOUR: 'it returns false'. Refute it at one input. -/
def glideSlowsWrong : ChangeSpec := { name := "glideSlows", fn := fun _ => fun
  | [d1, d2, d3] => { results := [.lit (.bool false)], args := [d1, d2, d3] }
  | _ => none }
def GlideSlowsWrongFalsely : Prop := glideSlowsRow.holds Tryz.pinned (OpenSpec.ofChange glideSlowsWrong)

/-- 'besomlaw04.GlideTicks': WHATEVER THE INPUT: true; the input reads as it did. -/
def glideTicksSpec : ChangeSpec := { name := "glideTicks", fn := fun _ => fun
  | [d1, d2, d3, d4, d5] => { results := [.lit (.bool true)], args := [d1, d2, d3, d4, d5] }
  | _ => none }
def glideTicksRow : OpenClaim := { program := "ytgpljldfbhkdlaagreat", sum := "3a2f44f283441d46da2b6f1c2208eea4fd51507ea0c7bfee28e3e7efe71b1a15", func := "besom/besomlaw04.GlideTicks", spec := "glideTicks", inPlace := ["math/bits.Add64"], unfollowed := true, recurses := true, named := ["math/bits.divideError", "math/bits.overflowError"], apart := false }
def GlideTicksSaid : Prop := glideTicksRow.holds Tryz.pinned (OpenSpec.ofChange glideTicksSpec)

/-- ITS FALSE NEIGHBOUR: 'it returns false'. Refute it at one input. -/
def glideTicksWrong : ChangeSpec := { name := "glideTicks", fn := fun _ => fun
  | [d1, d2, d3, d4, d5] => { results := [.lit (.bool false)], args := [d1, d2, d3, d4, d5] }
  | _ => none }
def GlideTicksWrongFalsely : Prop := glideTicksRow.holds Tryz.pinned (OpenSpec.ofChange glideTicksWrong)

/-- 'besomlaw04.GlideRuns': WHATEVER THE INPUT: true; the input reads as it did. -/
def glideRunsSpec : ChangeSpec := { name := "glideRuns", fn := fun _ => fun
  | [d1, d2, d3, d4, d5] => { results := [.lit (.bool true)], args := [d1, d2, d3, d4, d5] }
  | _ => none }
def glideRunsRow : OpenClaim := { program := "ytgpljldfbhkdlaagreat", sum := "3a2f44f283441d46da2b6f1c2208eea4fd51507ea0c7bfee28e3e7efe71b1a15", func := "besom/besomlaw04.GlideRuns", spec := "glideRuns", inPlace := ["math/bits.Add64"], unfollowed := true, recurses := true, named := ["math/bits.divideError", "math/bits.overflowError"], apart := false }
def GlideRunsSaid : Prop := glideRunsRow.holds Tryz.pinned (OpenSpec.ofChange glideRunsSpec)

/-- ITS FALSE NEIGHBOUR: 'it returns false'. Refute it at one input. -/
def glideRunsWrong : ChangeSpec := { name := "glideRuns", fn := fun _ => fun
  | [d1, d2, d3, d4, d5] => { results := [.lit (.bool false)], args := [d1, d2, d3, d4, d5] }
  | _ => none }
def GlideRunsWrongFalsely : Prop := glideRunsRow.holds Tryz.pinned (OpenSpec.ofChange glideRunsWrong)

/-- 'besomlaw04.GlideWears': WHATEVER THE INPUT: true; the input reads as it did. -/
def glideWearsSpec : ChangeSpec := { name := "glideWears", fn := fun _ => fun
  | [d1, d2, d3, d4] => { results := [.lit (.bool true)], args := [d1, d2, d3, d4] }
  | _ => none }
def glideWearsRow : OpenClaim := { program := "ytgpljldfbhkdlaagreat", sum := "3a2f44f283441d46da2b6f1c2208eea4fd51507ea0c7bfee28e3e7efe71b1a15", func := "besom/besomlaw04.GlideWears", spec := "glideWears", inPlace := ["math/bits.Add64"], unfollowed := true, recurses := true, named := ["math/bits.divideError", "math/bits.overflowError"], apart := false }
def GlideWearsSaid : Prop := glideWearsRow.holds Tryz.pinned (OpenSpec.ofChange glideWearsSpec)

/-- ITS FALSE NEIGHBOUR: 'it returns false'. Refute it at one input. -/
def glideWearsWrong : ChangeSpec := { name := "glideWears", fn := fun _ => fun
  | [d1, d2, d3, d4] => { results := [.lit (.bool false)], args := [d1, d2, d3, d4] }
  | _ => none }
def GlideWearsWrongFalsely : Prop := glideWearsRow.holds Tryz.pinned (OpenSpec.ofChange glideWearsWrong)

/-- 'besomlaw04.GlideNames': WHATEVER THE INPUT: true; the input reads as it did. -/
def glideNamesSpec : ChangeSpec := { name := "glideNames", fn := fun _ => fun
  | [] => { results := [.lit (.bool true)], args := [] }
  | _ => none }
def glideNamesRow : OpenClaim := { program := "ytgpljldfbhkdlaagreat", sum := "3a2f44f283441d46da2b6f1c2208eea4fd51507ea0c7bfee28e3e7efe71b1a15", func := "besom/besomlaw04.GlideNames", spec := "glideNames", inPlace := ["math/bits.Add64"], unfollowed := true, recurses := true, named := ["math/bits.divideError", "math/bits.overflowError"], apart := false }
def GlideNamesSaid : Prop := glideNamesRow.holds Tryz.pinned (OpenSpec.ofChange glideNamesSpec)

/-- ITS FALSE NEIGHBOUR: 'it returns false'. Refute it at one input. -/
def glideNamesWrong : ChangeSpec := { name := "glideNames", fn := fun _ => fun
  | [] => { results := [.lit (.bool false)], args := [] }
  | _ => none }
def GlideNamesWrongFalsely : Prop := glideNamesRow.holds Tryz.pinned (OpenSpec.ofChange glideNamesWrong)

/- THE SECOND FORM. 'bulk': how many values and letters a reading holds, each counted each time it is reached (what is shared counts as often as it is met; a slice's spare places count too). A statement '..UptoSaid' is the law's where the arguments, and the package variables that the reading takes, are together of bulk at most 1048576: NARROWER than '..Said'. Prove '..Said' where nothing that the law and all that it calls make is longer than what came in: it says more and counts as full. Else prove '..UptoSaid'. A law counts once. -/
mutual
def uptoBulk {H : Type} : DataW H → Nat
  | .lit (.string bytes) => bytes.length + 1
  | .lit _ => 1
  | .nil => 1
  | .ptr d => uptoBulk d + 1
  | .slice elems spare => uptoBulkAll elems + uptoBulkAll spare + 1
  | .agg parts => uptoBulkAll parts + 1
  | .iface _ d => uptoBulk d + 1
  | .map entries => uptoBulkEntries entries + 1
  | .held _ => 1
def uptoBulkAll {H : Type} : List (DataW H) → Nat
  | [] => 0
  | d :: r => uptoBulk d + uptoBulkAll r
def uptoBulkEntries {H : Type} : List (Lit × DataW H) → Nat
  | [] => 0
  | x :: r => uptoBulkEntry x + uptoBulkEntries r
def uptoBulkEntry {H : Type} : Lit × DataW H → Nat
  | (.string bytes, d) => bytes.length + uptoBulk d + 1
  | (_, d) => uptoBulk d + 1
 end
def uptoSmall : (H : Type) → List (DataW H) → Bool := fun _ ds => decide (uptoBulkAll ds ≤ 1048576)
def OpenSpec.upto (s : _root_.Go.ChangeSpec) : _root_.Go.OpenSpec := { _root_.Go.OpenSpec.ofChange s with cond := some uptoSmall }

/-- 'besomlaw04.GlideMirrors', WHERE WHAT IT READS IS OF BULK AT MOST 1048576: true; the input reads as it did. -/
def glideMirrorsUptoRow : OpenClaim := { program := "ytgpljldfbhkdlaagreat", sum := "3a2f44f283441d46da2b6f1c2208eea4fd51507ea0c7bfee28e3e7efe71b1a15", func := "besom/besomlaw04.GlideMirrors", spec := "glideMirrors", inPlace := ["math/bits.Add64"], unfollowed := true, recurses := true, named := ["math/bits.divideError", "math/bits.overflowError"], apart := false, narrowed := true }
def GlideMirrorsUptoSaid : Prop := glideMirrorsUptoRow.holds Tryz.pinned (OpenSpec.upto glideMirrorsSpec)

/-- 'besomlaw04.GlideParted', WHERE WHAT IT READS IS OF BULK AT MOST 1048576: true; the input reads as it did. -/
def glidePartedUptoRow : OpenClaim := { program := "ytgpljldfbhkdlaagreat", sum := "3a2f44f283441d46da2b6f1c2208eea4fd51507ea0c7bfee28e3e7efe71b1a15", func := "besom/besomlaw04.GlideParted", spec := "glideParted", inPlace := ["math/bits.Add64"], unfollowed := true, recurses := true, named := ["math/bits.divideError", "math/bits.overflowError"], apart := false, narrowed := true }
def GlidePartedUptoSaid : Prop := glidePartedUptoRow.holds Tryz.pinned (OpenSpec.upto glidePartedSpec)

/-- 'besomlaw04.GlideStraight', WHERE WHAT IT READS IS OF BULK AT MOST 1048576: true; the input reads as it did. -/
def glideStraightUptoRow : OpenClaim := { program := "ytgpljldfbhkdlaagreat", sum := "3a2f44f283441d46da2b6f1c2208eea4fd51507ea0c7bfee28e3e7efe71b1a15", func := "besom/besomlaw04.GlideStraight", spec := "glideStraight", inPlace := ["math/bits.Add64"], unfollowed := true, recurses := true, named := ["math/bits.divideError", "math/bits.overflowError"], apart := false, narrowed := true }
def GlideStraightUptoSaid : Prop := glideStraightUptoRow.holds Tryz.pinned (OpenSpec.upto glideStraightSpec)

/-- 'besomlaw04.GlideFarther', WHERE WHAT IT READS IS OF BULK AT MOST 1048576: true; the input reads as it did. -/
def glideFartherUptoRow : OpenClaim := { program := "ytgpljldfbhkdlaagreat", sum := "3a2f44f283441d46da2b6f1c2208eea4fd51507ea0c7bfee28e3e7efe71b1a15", func := "besom/besomlaw04.GlideFarther", spec := "glideFarther", inPlace := ["math/bits.Add64"], unfollowed := true, recurses := true, named := ["math/bits.divideError", "math/bits.overflowError"], apart := false, narrowed := true }
def GlideFartherUptoSaid : Prop := glideFartherUptoRow.holds Tryz.pinned (OpenSpec.upto glideFartherSpec)

/-- 'besomlaw04.GlideSlows', WHERE WHAT IT READS IS OF BULK AT MOST 1048576: true; the input reads as it did. -/
def glideSlowsUptoRow : OpenClaim := { program := "ytgpljldfbhkdlaagreat", sum := "3a2f44f283441d46da2b6f1c2208eea4fd51507ea0c7bfee28e3e7efe71b1a15", func := "besom/besomlaw04.GlideSlows", spec := "glideSlows", inPlace := ["math/bits.Add64"], unfollowed := true, recurses := true, named := ["math/bits.divideError", "math/bits.overflowError"], apart := false, narrowed := true }
def GlideSlowsUptoSaid : Prop := glideSlowsUptoRow.holds Tryz.pinned (OpenSpec.upto glideSlowsSpec)

/-- 'besomlaw04.GlideTicks', WHERE WHAT IT READS IS OF BULK AT MOST 1048576: true; the input reads as it did. -/
def glideTicksUptoRow : OpenClaim := { program := "ytgpljldfbhkdlaagreat", sum := "3a2f44f283441d46da2b6f1c2208eea4fd51507ea0c7bfee28e3e7efe71b1a15", func := "besom/besomlaw04.GlideTicks", spec := "glideTicks", inPlace := ["math/bits.Add64"], unfollowed := true, recurses := true, named := ["math/bits.divideError", "math/bits.overflowError"], apart := false, narrowed := true }
def GlideTicksUptoSaid : Prop := glideTicksUptoRow.holds Tryz.pinned (OpenSpec.upto glideTicksSpec)

/-- 'besomlaw04.GlideRuns', WHERE WHAT IT READS IS OF BULK AT MOST 1048576: true; the input reads as it did. -/
def glideRunsUptoRow : OpenClaim := { program := "ytgpljldfbhkdlaagreat", sum := "3a2f44f283441d46da2b6f1c2208eea4fd51507ea0c7bfee28e3e7efe71b1a15", func := "besom/besomlaw04.GlideRuns", spec := "glideRuns", inPlace := ["math/bits.Add64"], unfollowed := true, recurses := true, named := ["math/bits.divideError", "math/bits.overflowError"], apart := false, narrowed := true }
def GlideRunsUptoSaid : Prop := glideRunsUptoRow.holds Tryz.pinned (OpenSpec.upto glideRunsSpec)

/-- 'besomlaw04.GlideWears', WHERE WHAT IT READS IS OF BULK AT MOST 1048576: true; the input reads as it did. -/
def glideWearsUptoRow : OpenClaim := { program := "ytgpljldfbhkdlaagreat", sum := "3a2f44f283441d46da2b6f1c2208eea4fd51507ea0c7bfee28e3e7efe71b1a15", func := "besom/besomlaw04.GlideWears", spec := "glideWears", inPlace := ["math/bits.Add64"], unfollowed := true, recurses := true, named := ["math/bits.divideError", "math/bits.overflowError"], apart := false, narrowed := true }
def GlideWearsUptoSaid : Prop := glideWearsUptoRow.holds Tryz.pinned (OpenSpec.upto glideWearsSpec)

/-- 'besomlaw04.GlideNames', WHERE WHAT IT READS IS OF BULK AT MOST 1048576: true; the input reads as it did. -/
def glideNamesUptoRow : OpenClaim := { program := "ytgpljldfbhkdlaagreat", sum := "3a2f44f283441d46da2b6f1c2208eea4fd51507ea0c7bfee28e3e7efe71b1a15", func := "besom/besomlaw04.GlideNames", spec := "glideNames", inPlace := ["math/bits.Add64"], unfollowed := true, recurses := true, named := ["math/bits.divideError", "math/bits.overflowError"], apart := false, narrowed := true }
def GlideNamesUptoSaid : Prop := glideNamesUptoRow.holds Tryz.pinned (OpenSpec.upto glideNamesSpec)

end Rows
end Go.Proofs.YtgpljldfbhkdlaaGreat
