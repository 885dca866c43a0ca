/-
  No cell of these rows narrows 'for every input' (looked for: loops, veiled, ifaces, maps, wideKeys, modest, calm, conditions, laid).
  DERIVED. THE GIVEN ROWS OF THIS SEAT. 3 by the template 'for every input the law returns true; each argument reads behind the call as it read before'; 0 by the template 'total and deterministic' (their statements: YtenolfpkkgcgcaaGreatTotals.lean).
  GIVEN WITH THE SEED: the statements are not yours to turn. If you find one false, say at which input.
  Laid BY PROGRAM, IN A SANDBOX (cutbox-rows.mjs): the forced cells as the released guide's own fill.sh prints them over the translation 8bbddad1ac685528… (all of the seat's roots in one cut). By AI agents, Wed Nov 11 2026. No macro, syntax, notation, axiom, sorry.
-/
import Derived.Test.YtenolfpkkgcgcaaGreatChecked
import GoSem.Claim
import GoSem.ClaimJoined
import GoSem.ClaimMapViews
import Derived.JoinedTies
import Derived.KernelRfl
namespace Go.Proofs.YtenolfpkkgcgcaaGreat
/- THE CELL 'sum', in the pinned program and in every row, IS THE sha256 OF THE DUMP (.gsa) THAT YtenolfpkkgcgcaaGreatProg.lean LOADS. Nothing in Lean hashes anything: it is a label: what it is worth is what the hold of that sum in a sandbox is worth. -/
noncomputable def Tryz.pinned : Pinned := { name := "ytenolfpkkgcgcaagreat", sum := "8bbddad1ac6855285b4f289bb8d535237e5cd56c06c90658882ec0ce099a3b0f", checked := Tryz.checked }
namespace Rows
def none {H : Type} : Left H := { results := [], args := [] }

/-- 'besomtop.TopTold': WHATEVER THE INPUT: true; the input reads as it did. -/
def topToldSpec : ChangeSpec := { name := "topTold", fn := fun _ => fun
  | [d1, d2, d3, d4, d5] => { results := [.lit (.bool true)], args := [d1, d2, d3, d4, d5] }
  | _ => none }
def topToldRow : OpenClaim := { program := "ytenolfpkkgcgcaagreat", sum := "8bbddad1ac6855285b4f289bb8d535237e5cd56c06c90658882ec0ce099a3b0f", func := "besom/besomtop.TopTold", spec := "topTold", inPlace := ["math/bits.Add64", "math/bits.Sub64"], unfollowed := true, recurses := true, named := ["math/bits.divideError", "math/bits.overflowError"], plainKeys := false, apart := false }
def TopToldSaid : Prop := topToldRow.holds Tryz.pinned (OpenSpec.ofChange topToldSpec)

/-- ITS FALSE NEIGHBOUR: 'it returns false'. Refute it at one input. -/
def topToldWrong : ChangeSpec := { name := "topTold", fn := fun _ => fun
  | [d1, d2, d3, d4, d5] => { results := [.lit (.bool false)], args := [d1, d2, d3, d4, d5] }
  | _ => none }
def TopToldWrongFalsely : Prop := topToldRow.holds Tryz.pinned (OpenSpec.ofChange topToldWrong)

/-- 'besomlaw10.SkillLies': WHATEVER THE INPUT: true; the input reads as it did. -/
def skillLiesSpec : ChangeSpec := { name := "skillLies", fn := fun _ => fun
  | [d1, d2, d3] => { results := [.lit (.bool true)], args := [d1, d2, d3] }
  | _ => none }
def skillLiesRow : OpenClaim := { program := "ytenolfpkkgcgcaagreat", sum := "8bbddad1ac6855285b4f289bb8d535237e5cd56c06c90658882ec0ce099a3b0f", func := "besom/besomlaw10.SkillLies", spec := "skillLies", inPlace := ["math/bits.Add64", "math/bits.Sub64"], unfollowed := true, recurses := true, named := ["math/bits.divideError", "math/bits.overflowError"], plainKeys := false, apart := false }
def SkillLiesSaid : Prop := skillLiesRow.holds Tryz.pinned (OpenSpec.ofChange skillLiesSpec)

/-- ITS FALSE NEIGHBOUR: 'it returns false'. Refute it at one input. -/
def skillLiesWrong : ChangeSpec := { name := "skillLies", fn := fun _ => fun
  | [d1, d2, d3] => { results := [.lit (.bool false)], args := [d1, d2, d3] }
  | _ => none }
def SkillLiesWrongFalsely : Prop := skillLiesRow.holds Tryz.pinned (OpenSpec.ofChange skillLiesWrong)

/-- 'besomlaw10.SkillMirrors': WHATEVER THE INPUT: true; the input reads as it did. -/
def skillMirrorsSpec : ChangeSpec := { name := "skillMirrors", fn := fun _ => fun
  | [d1, d2, d3, d4, d5, d6] => { results := [.lit (.bool true)], args := [d1, d2, d3, d4, d5, d6] }
  | _ => none }
def skillMirrorsRow : OpenClaim := { program := "ytenolfpkkgcgcaagreat", sum := "8bbddad1ac6855285b4f289bb8d535237e5cd56c06c90658882ec0ce099a3b0f", func := "besom/besomlaw10.SkillMirrors", spec := "skillMirrors", inPlace := ["math/bits.Add64", "math/bits.Sub64"], unfollowed := true, recurses := true, named := ["math/bits.divideError", "math/bits.overflowError"], plainKeys := false, apart := false }
def SkillMirrorsSaid : Prop := skillMirrorsRow.holds Tryz.pinned (OpenSpec.ofChange skillMirrorsSpec)

/-- ITS FALSE NEIGHBOUR: 'it returns false'. Refute it at one input. -/
def skillMirrorsWrong : ChangeSpec := { name := "skillMirrors", fn := fun _ => fun
  | [d1, d2, d3, d4, d5, d6] => { results := [.lit (.bool false)], args := [d1, d2, d3, d4, d5, d6] }
  | _ => none }
def SkillMirrorsWrongFalsely : Prop := skillMirrorsRow.holds Tryz.pinned (OpenSpec.ofChange skillMirrorsWrong)

/- THE SECOND FORM. 'bulk': how many values and letters a reading holds, each counted each time it is reached (what is shared counts as often as it is met; a slice's spare places count too). A statement '..UptoSaid' is the law's where the arguments, and the package variables that the reading takes, are together of bulk at most 1048576: NARROWER than '..Said'. Prove '..Said' where nothing that the law and all that it calls make is longer than what came in: it says more and counts as full. Else prove '..UptoSaid'. A law counts once. -/
mutual
def uptoBulk {H : Type} : DataW H → Nat
  | .lit (.string bytes) => bytes.length + 1
  | .lit _ => 1
  | .nil => 1
  | .ptr d => uptoBulk d + 1
  | .slice elems spare => uptoBulkAll elems + uptoBulkAll spare + 1
  | .agg parts => uptoBulkAll parts + 1
  | .iface _ d => uptoBulk d + 1
  | .map entries => uptoBulkEntries entries + 1
  | .held _ => 1
def uptoBulkAll {H : Type} : List (DataW H) → Nat
  | [] => 0
  | d :: r => uptoBulk d + uptoBulkAll r
def uptoBulkEntries {H : Type} : List (Lit × DataW H) → Nat
  | [] => 0
  | x :: r => uptoBulkEntry x + uptoBulkEntries r
def uptoBulkEntry {H : Type} : Lit × DataW H → Nat
  | (.string bytes, d) => bytes.length + uptoBulk d + 1
  | (_, d) => uptoBulk d + 1
 end
def uptoSmall : (H : Type) → List (DataW H) → Bool := fun _ ds => decide (uptoBulkAll ds ≤ 1048576)
def OpenSpec.upto (s : _root_.Go.ChangeSpec) : _root_.Go.OpenSpec := { _root_.Go.OpenSpec.ofChange s with cond := some uptoSmall }

/-- 'besomtop.TopTold', WHERE WHAT IT READS IS OF BULK AT MOST 1048576: true; the input reads as it did. -/
def topToldUptoRow : OpenClaim := { program := "ytenolfpkkgcgcaagreat", sum := "8bbddad1ac6855285b4f289bb8d535237e5cd56c06c90658882ec0ce099a3b0f", func := "besom/besomtop.TopTold", spec := "topTold", inPlace := ["math/bits.Add64", "math/bits.Sub64"], unfollowed := true, recurses := true, named := ["math/bits.divideError", "math/bits.overflowError"], plainKeys := false, apart := false, narrowed := true }
def TopToldUptoSaid : Prop := topToldUptoRow.holds Tryz.pinned (OpenSpec.upto topToldSpec)

/-- 'besomlaw10.SkillLies', WHERE WHAT IT READS IS OF BULK AT MOST 1048576: true; the input reads as it did. -/
def skillLiesUptoRow : OpenClaim := { program := "ytenolfpkkgcgcaagreat", sum := "8bbddad1ac6855285b4f289bb8d535237e5cd56c06c90658882ec0ce099a3b0f", func := "besom/besomlaw10.SkillLies", spec := "skillLies", inPlace := ["math/bits.Add64", "math/bits.Sub64"], unfollowed := true, recurses := true, named := ["math/bits.divideError", "math/bits.overflowError"], plainKeys := false, apart := false, narrowed := true }
def SkillLiesUptoSaid : Prop := skillLiesUptoRow.holds Tryz.pinned (OpenSpec.upto skillLiesSpec)

/-- 'besomlaw10.SkillMirrors', WHERE WHAT IT READS IS OF BULK AT MOST 1048576: true; the input reads as it did. -/
def skillMirrorsUptoRow : OpenClaim := { program := "ytenolfpkkgcgcaagreat", sum := "8bbddad1ac6855285b4f289bb8d535237e5cd56c06c90658882ec0ce099a3b0f", func := "besom/besomlaw10.SkillMirrors", spec := "skillMirrors", inPlace := ["math/bits.Add64", "math/bits.Sub64"], unfollowed := true, recurses := true, named := ["math/bits.divideError", "math/bits.overflowError"], plainKeys := false, apart := false, narrowed := true }
def SkillMirrorsUptoSaid : Prop := skillMirrorsUptoRow.holds Tryz.pinned (OpenSpec.upto skillMirrorsSpec)

end Rows
end Go.Proofs.YtenolfpkkgcgcaaGreat
