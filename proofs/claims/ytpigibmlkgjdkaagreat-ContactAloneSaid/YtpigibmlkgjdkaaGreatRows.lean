/-
  No cell of these rows narrows 'for every input' (looked for: loops, veiled, ifaces, maps, wideKeys, modest, calm, conditions, laid).
  DERIVED. THE GIVEN ROWS OF THIS SEAT. 3 by the template 'for every input the law returns true; each argument reads behind the call as it read before'; 0 by the template 'total and deterministic' (their statements: YtpigibmlkgjdkaaGreatTotals.lean).
  GIVEN WITH THE SEED: the statements are not yours to turn. If you find one false, say at which input.
  Laid BY PROGRAM, IN A SANDBOX (cutbox-rows.mjs): the forced cells as the released guide's own fill.sh prints them over the translation 82d5312e829fe8b9… (all of the seat's roots in one cut). By AI agents, Wed Nov 11 2026. No macro, syntax, notation, axiom, sorry.
-/
import Derived.Test.YtpigibmlkgjdkaaGreatChecked
import GoSem.Claim
import GoSem.ClaimJoined
import GoSem.ClaimMapViews
import Derived.JoinedTies
import Derived.KernelRfl
namespace Go.Proofs.YtpigibmlkgjdkaaGreat
/- THE CELL 'sum', in the pinned program and in every row, IS THE sha256 OF THE DUMP (.gsa) THAT YtpigibmlkgjdkaaGreatProg.lean LOADS. Nothing in Lean hashes anything: it is a label: what it is worth is what the hold of that sum in a sandbox is worth. -/
noncomputable def Tryz.pinned : Pinned := { name := "ytpigibmlkgjdkaagreat", sum := "82d5312e829fe8b934d16febaa78b76d05ed5621a5c9e6574e4b4e96f60a6f6e", checked := Tryz.checked }
namespace Rows
def none {H : Type} : Left H := { results := [], args := [] }

/-- 'besomlaw05.ContactShots': WHATEVER THE INPUT: true; the input reads as it did. -/
def contactShotsSpec : ChangeSpec := { name := "contactShots", fn := fun _ => fun
  | [d1, d2, d3] => { results := [.lit (.bool true)], args := [d1, d2, d3] }
  | _ => none }
def contactShotsRow : OpenClaim := { program := "ytpigibmlkgjdkaagreat", sum := "82d5312e829fe8b934d16febaa78b76d05ed5621a5c9e6574e4b4e96f60a6f6e", func := "besom/besomlaw05.ContactShots", spec := "contactShots", inPlace := ["math/bits.Add64", "math/bits.Sub64"], unfollowed := true, recurses := true, named := ["math/bits.divideError", "math/bits.overflowError"], plainKeys := false, apart := false }
def ContactShotsSaid : Prop := contactShotsRow.holds Tryz.pinned (OpenSpec.ofChange contactShotsSpec)

/-- ITS FALSE NEIGHBOUR: 'it returns false'. Refute it at one input. -/
def contactShotsWrong : ChangeSpec := { name := "contactShots", fn := fun _ => fun
  | [d1, d2, d3] => { results := [.lit (.bool false)], args := [d1, d2, d3] }
  | _ => none }
def ContactShotsWrongFalsely : Prop := contactShotsRow.holds Tryz.pinned (OpenSpec.ofChange contactShotsWrong)

/-- 'besomlaw05.ContactAlone': WHATEVER THE INPUT: true; the input reads as it did. -/
def contactAloneSpec : ChangeSpec := { name := "contactAlone", fn := fun _ => fun
  | [d1, d2, d3] => { results := [.lit (.bool true)], args := [d1, d2, d3] }
  | _ => none }
def contactAloneRow : OpenClaim := { program := "ytpigibmlkgjdkaagreat", sum := "82d5312e829fe8b934d16febaa78b76d05ed5621a5c9e6574e4b4e96f60a6f6e", func := "besom/besomlaw05.ContactAlone", spec := "contactAlone", inPlace := ["math/bits.Add64", "math/bits.Sub64"], unfollowed := true, recurses := true, named := ["math/bits.divideError", "math/bits.overflowError"], plainKeys := false, apart := false }
def ContactAloneSaid : Prop := contactAloneRow.holds Tryz.pinned (OpenSpec.ofChange contactAloneSpec)

/-- ITS FALSE NEIGHBOUR: 'it returns false'. Refute it at one input. -/
def contactAloneWrong : ChangeSpec := { name := "contactAlone", fn := fun _ => fun
  | [d1, d2, d3] => { results := [.lit (.bool false)], args := [d1, d2, d3] }
  | _ => none }
def ContactAloneWrongFalsely : Prop := contactAloneRow.holds Tryz.pinned (OpenSpec.ofChange contactAloneWrong)

/-- 'besomlaw05.ContactMirrors': WHATEVER THE INPUT: true; the input reads as it did. -/
def contactMirrorsSpec : ChangeSpec := { name := "contactMirrors", fn := fun _ => fun
  | [d1, d2, d3, d4, d5] => { results := [.lit (.bool true)], args := [d1, d2, d3, d4, d5] }
  | _ => none }
def contactMirrorsRow : OpenClaim := { program := "ytpigibmlkgjdkaagreat", sum := "82d5312e829fe8b934d16febaa78b76d05ed5621a5c9e6574e4b4e96f60a6f6e", func := "besom/besomlaw05.ContactMirrors", spec := "contactMirrors", inPlace := ["math/bits.Add64", "math/bits.Sub64"], unfollowed := true, recurses := true, named := ["math/bits.divideError", "math/bits.overflowError"], plainKeys := false, apart := false }
def ContactMirrorsSaid : Prop := contactMirrorsRow.holds Tryz.pinned (OpenSpec.ofChange contactMirrorsSpec)

/-- ITS FALSE NEIGHBOUR: 'it returns false'. Refute it at one input. -/
def contactMirrorsWrong : ChangeSpec := { name := "contactMirrors", fn := fun _ => fun
  | [d1, d2, d3, d4, d5] => { results := [.lit (.bool false)], args := [d1, d2, d3, d4, d5] }
  | _ => none }
def ContactMirrorsWrongFalsely : Prop := contactMirrorsRow.holds Tryz.pinned (OpenSpec.ofChange contactMirrorsWrong)

/- THE SECOND FORM. 'bulk': how many values and letters a reading holds, each counted each time it is reached (what is shared counts as often as it is met; a slice's spare places count too). A statement '..UptoSaid' is the law's where the arguments, and the package variables that the reading takes, are together of bulk at most 1048576: NARROWER than '..Said'. Prove '..Said' where nothing that the law and all that it calls make is longer than what came in: it says more and counts as full. Else prove '..UptoSaid'. A law counts once. -/
mutual
def uptoBulk {H : Type} : DataW H → Nat
  | .lit (.string bytes) => bytes.length + 1
  | .lit _ => 1
  | .nil => 1
  | .ptr d => uptoBulk d + 1
  | .slice elems spare => uptoBulkAll elems + uptoBulkAll spare + 1
  | .agg parts => uptoBulkAll parts + 1
  | .iface _ d => uptoBulk d + 1
  | .map entries => uptoBulkEntries entries + 1
  | .held _ => 1
def uptoBulkAll {H : Type} : List (DataW H) → Nat
  | [] => 0
  | d :: r => uptoBulk d + uptoBulkAll r
def uptoBulkEntries {H : Type} : List (Lit × DataW H) → Nat
  | [] => 0
  | x :: r => uptoBulkEntry x + uptoBulkEntries r
def uptoBulkEntry {H : Type} : Lit × DataW H → Nat
  | (.string bytes, d) => bytes.length + uptoBulk d + 1
  | (_, d) => uptoBulk d + 1
 end
def uptoSmall : (H : Type) → List (DataW H) → Bool := fun _ ds => decide (uptoBulkAll ds ≤ 1048576)
def OpenSpec.upto (s : _root_.Go.ChangeSpec) : _root_.Go.OpenSpec := { _root_.Go.OpenSpec.ofChange s with cond := some uptoSmall }

/-- 'besomlaw05.ContactShots', WHERE WHAT IT READS IS OF BULK AT MOST 1048576: true; the input reads as it did. -/
def contactShotsUptoRow : OpenClaim := { program := "ytpigibmlkgjdkaagreat", sum := "82d5312e829fe8b934d16febaa78b76d05ed5621a5c9e6574e4b4e96f60a6f6e", func := "besom/besomlaw05.ContactShots", spec := "contactShots", inPlace := ["math/bits.Add64", "math/bits.Sub64"], unfollowed := true, recurses := true, named := ["math/bits.divideError", "math/bits.overflowError"], plainKeys := false, apart := false, narrowed := true }
def ContactShotsUptoSaid : Prop := contactShotsUptoRow.holds Tryz.pinned (OpenSpec.upto contactShotsSpec)

/-- 'besomlaw05.ContactAlone', WHERE WHAT IT READS IS OF BULK AT MOST 1048576: true; the input reads as it did. -/
def contactAloneUptoRow : OpenClaim := { program := "ytpigibmlkgjdkaagreat", sum := "82d5312e829fe8b934d16febaa78b76d05ed5621a5c9e6574e4b4e96f60a6f6e", func := "besom/besomlaw05.ContactAlone", spec := "contactAlone", inPlace := ["math/bits.Add64", "math/bits.Sub64"], unfollowed := true, recurses := true, named := ["math/bits.divideError", "math/bits.overflowError"], plainKeys := false, apart := false, narrowed := true }
def ContactAloneUptoSaid : Prop := contactAloneUptoRow.holds Tryz.pinned (OpenSpec.upto contactAloneSpec)

/-- 'besomlaw05.ContactMirrors', WHERE WHAT IT READS IS OF BULK AT MOST 1048576: true; the input reads as it did. -/
def contactMirrorsUptoRow : OpenClaim := { program := "ytpigibmlkgjdkaagreat", sum := "82d5312e829fe8b934d16febaa78b76d05ed5621a5c9e6574e4b4e96f60a6f6e", func := "besom/besomlaw05.ContactMirrors", spec := "contactMirrors", inPlace := ["math/bits.Add64", "math/bits.Sub64"], unfollowed := true, recurses := true, named := ["math/bits.divideError", "math/bits.overflowError"], plainKeys := false, apart := false, narrowed := true }
def ContactMirrorsUptoSaid : Prop := contactMirrorsUptoRow.holds Tryz.pinned (OpenSpec.upto contactMirrorsSpec)

end Rows
end Go.Proofs.YtpigibmlkgjdkaaGreat
