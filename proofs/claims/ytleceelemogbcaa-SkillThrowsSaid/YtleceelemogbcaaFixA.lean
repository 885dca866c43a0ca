/- Contracts of the small functions of package fixed: need, size, signed. -/
import Derived.Test.YtleceelemogbcaaProg
import Derived.WalkKit
import Derived.WalkSpells
import Derived.WalkLawsBesides
import Derived.Defers
import Derived.Recover
import Derived.Below

namespace Go.Proofs.Ytleceelemogbcaa
open Go.RowKit

/-- The panic with which package fixed ends its work. -/
def fixPanic (e : Int) : List PanicEntry := [{ v := .iface 141 (.agg #[.int .i64 e]), recovered := false }]

theorem need_yes (e : Int) (w : World) : Calls Try.prog 80 #[.bool true, .int .i64 e] w fun r w' => r = .returned (.tuple #[]) ∧ w = w' := by
  go_enter Try.func80, Try.ntmps80
  go_wp2
  go_end0
  exact ⟨rfl, rfl⟩

theorem need_no (e : Int) (w : World) : Calls Try.prog 80 #[.bool false, .int .i64 e] w fun r w' => r = .panicked (fixPanic e) ∧ w = w' := by
  go_enter Try.func80, Try.ntmps80
  go_wp2
  exact ⟨rfl, rfl, rfl⟩

end Go.Proofs.Ytleceelemogbcaa
