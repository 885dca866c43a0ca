/-
  No cell of these rows narrows 'for every input' (looked for: loops, veiled, ifaces, maps, wideKeys, modest, calm, conditions, laid).
  DERIVED. THE GIVEN ROWS OF THIS SEAT. 6 by the template 'for every input the law returns true; each argument reads behind the call as it read before'; 0 by the template 'total and deterministic' (their statements: YtbcjhjidhhecaaaTotals.lean).
  GIVEN WITH THE SEED: the statements are not yours to turn. If you find one false, say at which input.
  Laid BY PROGRAM, IN A SANDBOX (cutbox-rows.mjs): the forced cells as the released guide's own fill.sh prints them over the translation c4c5cf48ad8a5586… (all of the seat's roots in one cut). By AI agents, Wed Nov 11 2026. No macro, syntax, notation, axiom, sorry.
-/
import Derived.Test.YtbcjhjidhhecaaaChecked
import GoSem.Claim
import GoSem.ClaimJoined
import GoSem.ClaimMapViews
import Derived.JoinedTies
import Derived.KernelRfl
namespace Go.Proofs.Ytbcjhjidhhecaaa
/- THE CELL 'sum', in the pinned program and in every row, IS THE sha256 OF THE DUMP (.gsa) THAT YtbcjhjidhhecaaaProg.lean LOADS. Nothing in Lean hashes anything: it is a label: what it is worth is what the hold of that sum in a sandbox is worth. -/
noncomputable def Try.pinned : Pinned := { name := "ytbcjhjidhhecaaa", sum := "c4c5cf48ad8a55862e07e074d04f055bcd2d03ac4e61e6947ff8d432c86e0750", checked := Try.checked }
namespace Rows
def none {H : Type} : Left H := { results := [], args := [] }

/-- 'besomlaw03.IcePlaces': WHATEVER THE INPUT: true; the input reads as it did. -/
def icePlacesSpec : ChangeSpec := { name := "icePlaces", fn := fun _ => fun
  | [d1, d2, d3, d4] => { results := [.lit (.bool true)], args := [d1, d2, d3, d4] }
  | _ => none }
def icePlacesRow : OpenClaim := { program := "ytbcjhjidhhecaaa", sum := "c4c5cf48ad8a55862e07e074d04f055bcd2d03ac4e61e6947ff8d432c86e0750", func := "besom/besomlaw03.IcePlaces", spec := "icePlaces", inPlace := ["math/bits.Add64"], unfollowed := true, recurses := true, named := ["math/bits.divideError", "math/bits.overflowError"], apart := false }
def IcePlacesSaid : Prop := icePlacesRow.holds Try.pinned (OpenSpec.ofChange icePlacesSpec)

/-- ITS FALSE NEIGHBOUR: 'it returns false'. Refute it at one input. -/
def icePlacesWrong : ChangeSpec := { name := "icePlaces", fn := fun _ => fun
  | [d1, d2, d3, d4] => { results := [.lit (.bool false)], args := [d1, d2, d3, d4] }
  | _ => none }
def IcePlacesWrongFalsely : Prop := icePlacesRow.holds Try.pinned (OpenSpec.ofChange icePlacesWrong)

/-- 'besomlaw03.IceFar': WHATEVER THE INPUT: true; the input reads as it did. -/
def iceFarSpec : ChangeSpec := { name := "iceFar", fn := fun _ => fun
  | [d1, d2, d3, d4, d5, d6] => { results := [.lit (.bool true)], args := [d1, d2, d3, d4, d5, d6] }
  | _ => none }
def iceFarRow : OpenClaim := { program := "ytbcjhjidhhecaaa", sum := "c4c5cf48ad8a55862e07e074d04f055bcd2d03ac4e61e6947ff8d432c86e0750", func := "besom/besomlaw03.IceFar", spec := "iceFar", inPlace := ["math/bits.Add64"], unfollowed := true, recurses := true, named := ["math/bits.divideError", "math/bits.overflowError"], apart := false }
def IceFarSaid : Prop := iceFarRow.holds Try.pinned (OpenSpec.ofChange iceFarSpec)

/-- ITS FALSE NEIGHBOUR: 'it returns false'. Refute it at one input. -/
def iceFarWrong : ChangeSpec := { name := "iceFar", fn := fun _ => fun
  | [d1, d2, d3, d4, d5, d6] => { results := [.lit (.bool false)], args := [d1, d2, d3, d4, d5, d6] }
  | _ => none }
def IceFarWrongFalsely : Prop := iceFarRow.holds Try.pinned (OpenSpec.ofChange iceFarWrong)

/-- 'besomlaw03.IceKeen': WHATEVER THE INPUT: true; the input reads as it did. -/
def iceKeenSpec : ChangeSpec := { name := "iceKeen", fn := fun _ => fun
  | [d1, d2, d3, d4] => { results := [.lit (.bool true)], args := [d1, d2, d3, d4] }
  | _ => none }
def iceKeenRow : OpenClaim := { program := "ytbcjhjidhhecaaa", sum := "c4c5cf48ad8a55862e07e074d04f055bcd2d03ac4e61e6947ff8d432c86e0750", func := "besom/besomlaw03.IceKeen", spec := "iceKeen", inPlace := ["math/bits.Add64"], unfollowed := true, recurses := true, named := ["math/bits.divideError", "math/bits.overflowError"], apart := false }
def IceKeenSaid : Prop := iceKeenRow.holds Try.pinned (OpenSpec.ofChange iceKeenSpec)

/-- ITS FALSE NEIGHBOUR: 'it returns false'. Refute it at one input. -/
def iceKeenWrong : ChangeSpec := { name := "iceKeen", fn := fun _ => fun
  | [d1, d2, d3, d4] => { results := [.lit (.bool false)], args := [d1, d2, d3, d4] }
  | _ => none }
def IceKeenWrongFalsely : Prop := iceKeenRow.holds Try.pinned (OpenSpec.ofChange iceKeenWrong)

/-- 'besomlaw03.IceWorn': WHATEVER THE INPUT: true; the input reads as it did. -/
def iceWornSpec : ChangeSpec := { name := "iceWorn", fn := fun _ => fun
  | [d1, d2, d3, d4, d5] => { results := [.lit (.bool true)], args := [d1, d2, d3, d4, d5] }
  | _ => none }
def iceWornRow : OpenClaim := { program := "ytbcjhjidhhecaaa", sum := "c4c5cf48ad8a55862e07e074d04f055bcd2d03ac4e61e6947ff8d432c86e0750", func := "besom/besomlaw03.IceWorn", spec := "iceWorn", inPlace := ["math/bits.Add64"], unfollowed := true, recurses := true, named := ["math/bits.divideError", "math/bits.overflowError"], apart := false }
def IceWornSaid : Prop := iceWornRow.holds Try.pinned (OpenSpec.ofChange iceWornSpec)

/-- ITS FALSE NEIGHBOUR: 'it returns false'. Refute it at one input. -/
def iceWornWrong : ChangeSpec := { name := "iceWorn", fn := fun _ => fun
  | [d1, d2, d3, d4, d5] => { results := [.lit (.bool false)], args := [d1, d2, d3, d4, d5] }
  | _ => none }
def IceWornWrongFalsely : Prop := iceWornRow.holds Try.pinned (OpenSpec.ofChange iceWornWrong)

/-- 'besomlaw03.IceScraped': WHATEVER THE INPUT: true; the input reads as it did. -/
def iceScrapedSpec : ChangeSpec := { name := "iceScraped", fn := fun _ => fun
  | [d1, d2, d3, d4, d5, d6] => { results := [.lit (.bool true)], args := [d1, d2, d3, d4, d5, d6] }
  | _ => none }
def iceScrapedRow : OpenClaim := { program := "ytbcjhjidhhecaaa", sum := "c4c5cf48ad8a55862e07e074d04f055bcd2d03ac4e61e6947ff8d432c86e0750", func := "besom/besomlaw03.IceScraped", spec := "iceScraped", inPlace := ["math/bits.Add64"], unfollowed := true, recurses := true, named := ["math/bits.divideError", "math/bits.overflowError"], apart := false }
def IceScrapedSaid : Prop := iceScrapedRow.holds Try.pinned (OpenSpec.ofChange iceScrapedSpec)

/-- ITS FALSE NEIGHBOUR: 'it returns false'. Refute it at one input. -/
def iceScrapedWrong : ChangeSpec := { name := "iceScraped", fn := fun _ => fun
  | [d1, d2, d3, d4, d5, d6] => { results := [.lit (.bool false)], args := [d1, d2, d3, d4, d5, d6] }
  | _ => none }
def IceScrapedWrongFalsely : Prop := iceScrapedRow.holds Try.pinned (OpenSpec.ofChange iceScrapedWrong)

/-- 'besomlaw03.IceNames': WHATEVER THE INPUT: true; the input reads as it did. -/
def iceNamesSpec : ChangeSpec := { name := "iceNames", fn := fun _ => fun
  | [] => { results := [.lit (.bool true)], args := [] }
  | _ => none }
def iceNamesRow : OpenClaim := { program := "ytbcjhjidhhecaaa", sum := "c4c5cf48ad8a55862e07e074d04f055bcd2d03ac4e61e6947ff8d432c86e0750", func := "besom/besomlaw03.IceNames", spec := "iceNames", inPlace := ["math/bits.Add64"], unfollowed := true, recurses := true, named := ["math/bits.divideError", "math/bits.overflowError"], apart := false }
def IceNamesSaid : Prop := iceNamesRow.holds Try.pinned (OpenSpec.ofChange iceNamesSpec)

/-- ITS FALSE NEIGHBOUR: 'it returns false'. Refute it at one input. -/
def iceNamesWrong : ChangeSpec := { name := "iceNames", fn := fun _ => fun
  | [] => { results := [.lit (.bool false)], args := [] }
  | _ => none }
def IceNamesWrongFalsely : Prop := iceNamesRow.holds Try.pinned (OpenSpec.ofChange iceNamesWrong)

/- THE SECOND FORM. 'bulk': how many values and letters a reading holds, each counted each time it is reached (what is shared counts as often as it is met; a slice's spare places count too). A statement '..UptoSaid' is the law's where the arguments, and the package variables that the reading takes, are together of bulk at most 1048576: NARROWER than '..Said'. Prove '..Said' where nothing that the law and all that it calls make is longer than what came in: it says more and counts as full. Else prove '..UptoSaid'. A law counts once. -/
mutual
def uptoBulk {H : Type} : DataW H → Nat
  | .lit (.string bytes) => bytes.length + 1
  | .lit _ => 1
  | .nil => 1
  | .ptr d => uptoBulk d + 1
  | .slice elems spare => uptoBulkAll elems + uptoBulkAll spare + 1
  | .agg parts => uptoBulkAll parts + 1
  | .iface _ d => uptoBulk d + 1
  | .map entries => uptoBulkEntries entries + 1
  | .held _ => 1
def uptoBulkAll {H : Type} : List (DataW H) → Nat
  | [] => 0
  | d :: r => uptoBulk d + uptoBulkAll r
def uptoBulkEntries {H : Type} : List (Lit × DataW H) → Nat
  | [] => 0
  | x :: r => uptoBulkEntry x + uptoBulkEntries r
def uptoBulkEntry {H : Type} : Lit × DataW H → Nat
  | (.string bytes, d) => bytes.length + uptoBulk d + 1
  | (_, d) => uptoBulk d + 1
 end
def uptoSmall : (H : Type) → List (DataW H) → Bool := fun _ ds => decide (uptoBulkAll ds ≤ 1048576)
def OpenSpec.upto (s : _root_.Go.ChangeSpec) : _root_.Go.OpenSpec := { _root_.Go.OpenSpec.ofChange s with cond := some uptoSmall }

/-- 'besomlaw03.IcePlaces', WHERE WHAT IT READS IS OF BULK AT MOST 1048576: true; the input reads as it did. -/
def icePlacesUptoRow : OpenClaim := { program := "ytbcjhjidhhecaaa", sum := "c4c5cf48ad8a55862e07e074d04f055bcd2d03ac4e61e6947ff8d432c86e0750", func := "besom/besomlaw03.IcePlaces", spec := "icePlaces", inPlace := ["math/bits.Add64"], unfollowed := true, recurses := true, named := ["math/bits.divideError", "math/bits.overflowError"], apart := false, narrowed := true }
def IcePlacesUptoSaid : Prop := icePlacesUptoRow.holds Try.pinned (OpenSpec.upto icePlacesSpec)

/-- 'besomlaw03.IceFar', WHERE WHAT IT READS IS OF BULK AT MOST 1048576: true; the input reads as it did. -/
def iceFarUptoRow : OpenClaim := { program := "ytbcjhjidhhecaaa", sum := "c4c5cf48ad8a55862e07e074d04f055bcd2d03ac4e61e6947ff8d432c86e0750", func := "besom/besomlaw03.IceFar", spec := "iceFar", inPlace := ["math/bits.Add64"], unfollowed := true, recurses := true, named := ["math/bits.divideError", "math/bits.overflowError"], apart := false, narrowed := true }
def IceFarUptoSaid : Prop := iceFarUptoRow.holds Try.pinned (OpenSpec.upto iceFarSpec)

/-- 'besomlaw03.IceKeen', WHERE WHAT IT READS IS OF BULK AT MOST 1048576: true; the input reads as it did. -/
def iceKeenUptoRow : OpenClaim := { program := "ytbcjhjidhhecaaa", sum := "c4c5cf48ad8a55862e07e074d04f055bcd2d03ac4e61e6947ff8d432c86e0750", func := "besom/besomlaw03.IceKeen", spec := "iceKeen", inPlace := ["math/bits.Add64"], unfollowed := true, recurses := true, named := ["math/bits.divideError", "math/bits.overflowError"], apart := false, narrowed := true }
def IceKeenUptoSaid : Prop := iceKeenUptoRow.holds Try.pinned (OpenSpec.upto iceKeenSpec)

/-- 'besomlaw03.IceWorn', WHERE WHAT IT READS IS OF BULK AT MOST 1048576: true; the input reads as it did. -/
def iceWornUptoRow : OpenClaim := { program := "ytbcjhjidhhecaaa", sum := "c4c5cf48ad8a55862e07e074d04f055bcd2d03ac4e61e6947ff8d432c86e0750", func := "besom/besomlaw03.IceWorn", spec := "iceWorn", inPlace := ["math/bits.Add64"], unfollowed := true, recurses := true, named := ["math/bits.divideError", "math/bits.overflowError"], apart := false, narrowed := true }
def IceWornUptoSaid : Prop := iceWornUptoRow.holds Try.pinned (OpenSpec.upto iceWornSpec)

/-- 'besomlaw03.IceScraped', WHERE WHAT IT READS IS OF BULK AT MOST 1048576: true; the input reads as it did. -/
def iceScrapedUptoRow : OpenClaim := { program := "ytbcjhjidhhecaaa", sum := "c4c5cf48ad8a55862e07e074d04f055bcd2d03ac4e61e6947ff8d432c86e0750", func := "besom/besomlaw03.IceScraped", spec := "iceScraped", inPlace := ["math/bits.Add64"], unfollowed := true, recurses := true, named := ["math/bits.divideError", "math/bits.overflowError"], apart := false, narrowed := true }
def IceScrapedUptoSaid : Prop := iceScrapedUptoRow.holds Try.pinned (OpenSpec.upto iceScrapedSpec)

/-- 'besomlaw03.IceNames', WHERE WHAT IT READS IS OF BULK AT MOST 1048576: true; the input reads as it did. -/
def iceNamesUptoRow : OpenClaim := { program := "ytbcjhjidhhecaaa", sum := "c4c5cf48ad8a55862e07e074d04f055bcd2d03ac4e61e6947ff8d432c86e0750", func := "besom/besomlaw03.IceNames", spec := "iceNames", inPlace := ["math/bits.Add64"], unfollowed := true, recurses := true, named := ["math/bits.divideError", "math/bits.overflowError"], apart := false, narrowed := true }
def IceNamesUptoSaid : Prop := iceNamesUptoRow.holds Try.pinned (OpenSpec.upto iceNamesSpec)

end Rows
end Go.Proofs.Ytbcjhjidhhecaaa
