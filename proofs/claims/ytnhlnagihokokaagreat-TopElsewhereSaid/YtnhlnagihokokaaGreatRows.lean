/-
  No cell of these rows narrows 'for every input' (looked for: loops, veiled, ifaces, maps, wideKeys, modest, calm, conditions, laid).
  DERIVED. THE GIVEN ROWS OF THIS SEAT. 7 by the template 'for every input the law returns true; each argument reads behind the call as it read before'; 0 by the template 'total and deterministic' (their statements: YtnhlnagihokokaaGreatTotals.lean).
  GIVEN WITH THE SEED: the statements are not yours to turn. If you find one false, say at which input.
  Laid BY PROGRAM, IN A SANDBOX (cutbox-rows.mjs): the forced cells as the released guide's own fill.sh prints them over the translation c66eac91ab16171d… (all of the seat's roots in one cut). By AI agents, Wed Nov 11 2026. No macro, syntax, notation, axiom, sorry.
-/
import Derived.Test.YtnhlnagihokokaaGreatChecked
import GoSem.Claim
import GoSem.ClaimJoined
import GoSem.ClaimMapViews
import Derived.JoinedTies
import Derived.KernelRfl
namespace Go.Proofs.YtnhlnagihokokaaGreat
/- THE CELL 'sum', in the pinned program and in every row, IS THE sha256 OF THE DUMP (.gsa) THAT YtnhlnagihokokaaGreatProg.lean LOADS. Nothing in Lean hashes anything: it is a label: what it is worth is what the hold of that sum in a sandbox is worth. -/
noncomputable def Tryz.pinned : Pinned := { name := "ytnhlnagihokokaagreat", sum := "c66eac91ab16171d27110d37f3040610af49c6fee28101c024d09711bc9a7d1a", checked := Tryz.checked }
namespace Rows
def none {H : Type} : Left H := { results := [], args := [] }

/-- 'besomtop.TopElsewhere': WHATEVER THE INPUT: true; the input reads as it did. -/
def topElsewhereSpec : ChangeSpec := { name := "topElsewhere", fn := fun _ => fun
  | [d1, d2, d3, d4, d5, d6] => { results := [.lit (.bool true)], args := [d1, d2, d3, d4, d5, d6] }
  | _ => none }
def topElsewhereRow : OpenClaim := { program := "ytnhlnagihokokaagreat", sum := "c66eac91ab16171d27110d37f3040610af49c6fee28101c024d09711bc9a7d1a", func := "besom/besomtop.TopElsewhere", spec := "topElsewhere", inPlace := ["math/bits.Add64"], unfollowed := true, recurses := true, named := ["math/bits.divideError", "math/bits.overflowError"], plainKeys := false, apart := false }
def TopElsewhereSaid : Prop := topElsewhereRow.holds Tryz.pinned (OpenSpec.ofChange topElsewhereSpec)

/-- ITS FALSE NEIGHBOUR: 'it returns false'. Refute it at one input. -/
def topElsewhereWrong : ChangeSpec := { name := "topElsewhere", fn := fun _ => fun
  | [d1, d2, d3, d4, d5, d6] => { results := [.lit (.bool false)], args := [d1, d2, d3, d4, d5, d6] }
  | _ => none }
def TopElsewhereWrongFalsely : Prop := topElsewhereRow.holds Tryz.pinned (OpenSpec.ofChange topElsewhereWrong)

/-- 'besomlaw05.ContactTicks': WHATEVER THE INPUT: true; the input reads as it did. -/
def contactTicksSpec : ChangeSpec := { name := "contactTicks", fn := fun _ => fun
  | [d1, d2, d3] => { results := [.lit (.bool true)], args := [d1, d2, d3] }
  | _ => none }
def contactTicksRow : OpenClaim := { program := "ytnhlnagihokokaagreat", sum := "c66eac91ab16171d27110d37f3040610af49c6fee28101c024d09711bc9a7d1a", func := "besom/besomlaw05.ContactTicks", spec := "contactTicks", inPlace := ["math/bits.Add64", "math/bits.Sub64"], unfollowed := true, recurses := true, named := ["math/bits.divideError", "math/bits.overflowError"], plainKeys := false, apart := false }
def ContactTicksSaid : Prop := contactTicksRow.holds Tryz.pinned (OpenSpec.ofChange contactTicksSpec)

/-- ITS FALSE NEIGHBOUR: 'it returns false'. Refute it at one input. -/
def contactTicksWrong : ChangeSpec := { name := "contactTicks", fn := fun _ => fun
  | [d1, d2, d3] => { results := [.lit (.bool false)], args := [d1, d2, d3] }
  | _ => none }
def ContactTicksWrongFalsely : Prop := contactTicksRow.holds Tryz.pinned (OpenSpec.ofChange contactTicksWrong)

/-- 'besomlaw05.ContactSums': WHATEVER THE INPUT: true; the input reads as it did. -/
def contactSumsSpec : ChangeSpec := { name := "contactSums", fn := fun _ => fun
  | [d1, d2] => { results := [.lit (.bool true)], args := [d1, d2] }
  | _ => none }
def contactSumsRow : OpenClaim := { program := "ytnhlnagihokokaagreat", sum := "c66eac91ab16171d27110d37f3040610af49c6fee28101c024d09711bc9a7d1a", func := "besom/besomlaw05.ContactSums", spec := "contactSums", inPlace := ["math/bits.Add64", "math/bits.Sub64"], unfollowed := true, recurses := true, named := ["math/bits.divideError", "math/bits.overflowError"], plainKeys := false, apart := false }
def ContactSumsSaid : Prop := contactSumsRow.holds Tryz.pinned (OpenSpec.ofChange contactSumsSpec)

/-- ITS FALSE NEIGHBOUR: 'it returns false'. Refute it at one input. -/
def contactSumsWrong : ChangeSpec := { name := "contactSums", fn := fun _ => fun
  | [d1, d2] => { results := [.lit (.bool false)], args := [d1, d2] }
  | _ => none }
def ContactSumsWrongFalsely : Prop := contactSumsRow.holds Tryz.pinned (OpenSpec.ofChange contactSumsWrong)

/-- 'besomlaw05.ContactShots': WHATEVER THE INPUT: true; the input reads as it did. -/
def contactShotsSpec : ChangeSpec := { name := "contactShots", fn := fun _ => fun
  | [d1, d2, d3] => { results := [.lit (.bool true)], args := [d1, d2, d3] }
  | _ => none }
def contactShotsRow : OpenClaim := { program := "ytnhlnagihokokaagreat", sum := "c66eac91ab16171d27110d37f3040610af49c6fee28101c024d09711bc9a7d1a", func := "besom/besomlaw05.ContactShots", spec := "contactShots", inPlace := ["math/bits.Add64", "math/bits.Sub64"], unfollowed := true, recurses := true, named := ["math/bits.divideError", "math/bits.overflowError"], plainKeys := false, apart := false }
def ContactShotsSaid : Prop := contactShotsRow.holds Tryz.pinned (OpenSpec.ofChange contactShotsSpec)

/-- ITS FALSE NEIGHBOUR: 'it returns false'. Refute it at one input. -/
def contactShotsWrong : ChangeSpec := { name := "contactShots", fn := fun _ => fun
  | [d1, d2, d3] => { results := [.lit (.bool false)], args := [d1, d2, d3] }
  | _ => none }
def ContactShotsWrongFalsely : Prop := contactShotsRow.holds Tryz.pinned (OpenSpec.ofChange contactShotsWrong)

/-- 'besomlaw05.ContactAlone': WHATEVER THE INPUT: true; the input reads as it did. -/
def contactAloneSpec : ChangeSpec := { name := "contactAlone", fn := fun _ => fun
  | [d1, d2, d3] => { results := [.lit (.bool true)], args := [d1, d2, d3] }
  | _ => none }
def contactAloneRow : OpenClaim := { program := "ytnhlnagihokokaagreat", sum := "c66eac91ab16171d27110d37f3040610af49c6fee28101c024d09711bc9a7d1a", func := "besom/besomlaw05.ContactAlone", spec := "contactAlone", inPlace := ["math/bits.Add64", "math/bits.Sub64"], unfollowed := true, recurses := true, named := ["math/bits.divideError", "math/bits.overflowError"], plainKeys := false, apart := false }
def ContactAloneSaid : Prop := contactAloneRow.holds Tryz.pinned (OpenSpec.ofChange contactAloneSpec)

/-- ITS FALSE NEIGHBOUR: 'it returns false'. Refute it at one input. -/
def contactAloneWrong : ChangeSpec := { name := "contactAlone", fn := fun _ => fun
  | [d1, d2, d3] => { results := [.lit (.bool false)], args := [d1, d2, d3] }
  | _ => none }
def ContactAloneWrongFalsely : Prop := contactAloneRow.holds Tryz.pinned (OpenSpec.ofChange contactAloneWrong)

/-- 'besomlaw05.ContactMirrors': WHATEVER THE INPUT: true; the input reads as it did. -/
def contactMirrorsSpec : ChangeSpec := { name := "contactMirrors", fn := fun _ => fun
  | [d1, d2, d3, d4, d5] => { results := [.lit (.bool true)], args := [d1, d2, d3, d4, d5] }
  | _ => none }
def contactMirrorsRow : OpenClaim := { program := "ytnhlnagihokokaagreat", sum := "c66eac91ab16171d27110d37f3040610af49c6fee28101c024d09711bc9a7d1a", func := "besom/besomlaw05.ContactMirrors", spec := "contactMirrors", inPlace := ["math/bits.Add64", "math/bits.Sub64"], unfollowed := true, recurses := true, named := ["math/bits.divideError", "math/bits.overflowError"], plainKeys := false, apart := false }
def ContactMirrorsSaid : Prop := contactMirrorsRow.holds Tryz.pinned (OpenSpec.ofChange contactMirrorsSpec)

/-- ITS FALSE NEIGHBOUR: 'it returns false'. Refute it at one input. -/
def contactMirrorsWrong : ChangeSpec := { name := "contactMirrors", fn := fun _ => fun
  | [d1, d2, d3, d4, d5] => { results := [.lit (.bool false)], args := [d1, d2, d3, d4, d5] }
  | _ => none }
def ContactMirrorsWrongFalsely : Prop := contactMirrorsRow.holds Tryz.pinned (OpenSpec.ofChange contactMirrorsWrong)

/-- 'besomlaw05.ContactPlaced': WHATEVER THE INPUT: true; the input reads as it did. -/
def contactPlacedSpec : ChangeSpec := { name := "contactPlaced", fn := fun _ => fun
  | [d1, d2, d3] => { results := [.lit (.bool true)], args := [d1, d2, d3] }
  | _ => none }
def contactPlacedRow : OpenClaim := { program := "ytnhlnagihokokaagreat", sum := "c66eac91ab16171d27110d37f3040610af49c6fee28101c024d09711bc9a7d1a", func := "besom/besomlaw05.ContactPlaced", spec := "contactPlaced", inPlace := ["math/bits.Add64", "math/bits.Sub64"], unfollowed := true, recurses := true, named := ["math/bits.divideError", "math/bits.overflowError"], plainKeys := false, apart := false }
def ContactPlacedSaid : Prop := contactPlacedRow.holds Tryz.pinned (OpenSpec.ofChange contactPlacedSpec)

/-- ITS FALSE NEIGHBOUR: 'it returns false'. Refute it at one input. -/
def contactPlacedWrong : ChangeSpec := { name := "contactPlaced", fn := fun _ => fun
  | [d1, d2, d3] => { results := [.lit (.bool false)], args := [d1, d2, d3] }
  | _ => none }
def ContactPlacedWrongFalsely : Prop := contactPlacedRow.holds Tryz.pinned (OpenSpec.ofChange contactPlacedWrong)

/- THE SECOND FORM. 'bulk': how many values and letters a reading holds, each counted each time it is reached (what is shared counts as often as it is met; a slice's spare places count too). A statement '..UptoSaid' is the law's where the arguments, and the package variables that the reading takes, are together of bulk at most 1048576: NARROWER than '..Said'. Prove '..Said' where nothing that the law and all that it calls make is longer than what came in: it says more and counts as full. Else prove '..UptoSaid'. A law counts once. -/
mutual
def uptoBulk {H : Type} : DataW H → Nat
  | .lit (.string bytes) => bytes.length + 1
  | .lit _ => 1
  | .nil => 1
  | .ptr d => uptoBulk d + 1
  | .slice elems spare => uptoBulkAll elems + uptoBulkAll spare + 1
  | .agg parts => uptoBulkAll parts + 1
  | .iface _ d => uptoBulk d + 1
  | .map entries => uptoBulkEntries entries + 1
  | .held _ => 1
def uptoBulkAll {H : Type} : List (DataW H) → Nat
  | [] => 0
  | d :: r => uptoBulk d + uptoBulkAll r
def uptoBulkEntries {H : Type} : List (Lit × DataW H) → Nat
  | [] => 0
  | x :: r => uptoBulkEntry x + uptoBulkEntries r
def uptoBulkEntry {H : Type} : Lit × DataW H → Nat
  | (.string bytes, d) => bytes.length + uptoBulk d + 1
  | (_, d) => uptoBulk d + 1
 end
def uptoSmall : (H : Type) → List (DataW H) → Bool := fun _ ds => decide (uptoBulkAll ds ≤ 1048576)
def OpenSpec.upto (s : _root_.Go.ChangeSpec) : _root_.Go.OpenSpec := { _root_.Go.OpenSpec.ofChange s with cond := some uptoSmall }

/-- 'besomtop.TopElsewhere', WHERE WHAT IT READS IS OF BULK AT MOST 1048576: true; the input reads as it did. -/
def topElsewhereUptoRow : OpenClaim := { program := "ytnhlnagihokokaagreat", sum := "c66eac91ab16171d27110d37f3040610af49c6fee28101c024d09711bc9a7d1a", func := "besom/besomtop.TopElsewhere", spec := "topElsewhere", inPlace := ["math/bits.Add64"], unfollowed := true, recurses := true, named := ["math/bits.divideError", "math/bits.overflowError"], plainKeys := false, apart := false, narrowed := true }
def TopElsewhereUptoSaid : Prop := topElsewhereUptoRow.holds Tryz.pinned (OpenSpec.upto topElsewhereSpec)

/-- 'besomlaw05.ContactTicks', WHERE WHAT IT READS IS OF BULK AT MOST 1048576: true; the input reads as it did. -/
def contactTicksUptoRow : OpenClaim := { program := "ytnhlnagihokokaagreat", sum := "c66eac91ab16171d27110d37f3040610af49c6fee28101c024d09711bc9a7d1a", func := "besom/besomlaw05.ContactTicks", spec := "contactTicks", inPlace := ["math/bits.Add64", "math/bits.Sub64"], unfollowed := true, recurses := true, named := ["math/bits.divideError", "math/bits.overflowError"], plainKeys := false, apart := false, narrowed := true }
def ContactTicksUptoSaid : Prop := contactTicksUptoRow.holds Tryz.pinned (OpenSpec.upto contactTicksSpec)

/-- 'besomlaw05.ContactSums', WHERE WHAT IT READS IS OF BULK AT MOST 1048576: true; the input reads as it did. -/
def contactSumsUptoRow : OpenClaim := { program := "ytnhlnagihokokaagreat", sum := "c66eac91ab16171d27110d37f3040610af49c6fee28101c024d09711bc9a7d1a", func := "besom/besomlaw05.ContactSums", spec := "contactSums", inPlace := ["math/bits.Add64", "math/bits.Sub64"], unfollowed := true, recurses := true, named := ["math/bits.divideError", "math/bits.overflowError"], plainKeys := false, apart := false, narrowed := true }
def ContactSumsUptoSaid : Prop := contactSumsUptoRow.holds Tryz.pinned (OpenSpec.upto contactSumsSpec)

/-- 'besomlaw05.ContactShots', WHERE WHAT IT READS IS OF BULK AT MOST 1048576: true; the input reads as it did. -/
def contactShotsUptoRow : OpenClaim := { program := "ytnhlnagihokokaagreat", sum := "c66eac91ab16171d27110d37f3040610af49c6fee28101c024d09711bc9a7d1a", func := "besom/besomlaw05.ContactShots", spec := "contactShots", inPlace := ["math/bits.Add64", "math/bits.Sub64"], unfollowed := true, recurses := true, named := ["math/bits.divideError", "math/bits.overflowError"], plainKeys := false, apart := false, narrowed := true }
def ContactShotsUptoSaid : Prop := contactShotsUptoRow.holds Tryz.pinned (OpenSpec.upto contactShotsSpec)

/-- 'besomlaw05.ContactAlone', WHERE WHAT IT READS IS OF BULK AT MOST 1048576: true; the input reads as it did. -/
def contactAloneUptoRow : OpenClaim := { program := "ytnhlnagihokokaagreat", sum := "c66eac91ab16171d27110d37f3040610af49c6fee28101c024d09711bc9a7d1a", func := "besom/besomlaw05.ContactAlone", spec := "contactAlone", inPlace := ["math/bits.Add64", "math/bits.Sub64"], unfollowed := true, recurses := true, named := ["math/bits.divideError", "math/bits.overflowError"], plainKeys := false, apart := false, narrowed := true }
def ContactAloneUptoSaid : Prop := contactAloneUptoRow.holds Tryz.pinned (OpenSpec.upto contactAloneSpec)

/-- 'besomlaw05.ContactMirrors', WHERE WHAT IT READS IS OF BULK AT MOST 1048576: true; the input reads as it did. -/
def contactMirrorsUptoRow : OpenClaim := { program := "ytnhlnagihokokaagreat", sum := "c66eac91ab16171d27110d37f3040610af49c6fee28101c024d09711bc9a7d1a", func := "besom/besomlaw05.ContactMirrors", spec := "contactMirrors", inPlace := ["math/bits.Add64", "math/bits.Sub64"], unfollowed := true, recurses := true, named := ["math/bits.divideError", "math/bits.overflowError"], plainKeys := false, apart := false, narrowed := true }
def ContactMirrorsUptoSaid : Prop := contactMirrorsUptoRow.holds Tryz.pinned (OpenSpec.upto contactMirrorsSpec)

/-- 'besomlaw05.ContactPlaced', WHERE WHAT IT READS IS OF BULK AT MOST 1048576: true; the input reads as it did. -/
def contactPlacedUptoRow : OpenClaim := { program := "ytnhlnagihokokaagreat", sum := "c66eac91ab16171d27110d37f3040610af49c6fee28101c024d09711bc9a7d1a", func := "besom/besomlaw05.ContactPlaced", spec := "contactPlaced", inPlace := ["math/bits.Add64", "math/bits.Sub64"], unfollowed := true, recurses := true, named := ["math/bits.divideError", "math/bits.overflowError"], plainKeys := false, apart := false, narrowed := true }
def ContactPlacedUptoSaid : Prop := contactPlacedUptoRow.holds Tryz.pinned (OpenSpec.upto contactPlacedSpec)

end Rows
end Go.Proofs.YtnhlnagihokokaaGreat
