/- The row of TopWorth: the worth of a call is between the least and the greatest points of its throws, and the exact count of the stones behind each throw is among these. No condition. -/
import Derived.Test.YtpgfncncgjihpaaGreatM13
import Derived.Test.YtpgfncncgjihpaaGreatM11
import Derived.Test.YtpgfncncgjihpaaGreatRows
namespace Go.Proofs.YtpgfncncgjihpaaGreat
open Go.ChangeShapes Go.WideShapes Go.ChangeAt Go.RowKit
set_option maxRecDepth 100000 in
theorem oU (os : Os) (started : os.Started) (H : Type) (enc : TypeId × Value → H) :
    ReturnsInHanded {} Tryz.checked os 3 .any (Rows.topWorthSpec.pre6 enc Tryz.prog Tryz.f3 Rows.topWorthRow.domain false) (Rows.topWorthSpec.post enc Tryz.prog Tryz.f3 false true false false) := by
  refine returnsInHanded_of_change (C := Tryz.checked) I4 started (by kernel_rfl) Tryz.func3
    (ChangeSpec.witness6 (enc := enc) (C := Tryz.checked) false ⟨#[], #[.agg #[.int .i64 0, .int .i64 0, .int .i64 0, .int .i64 0, .int .i64 0, .slice none 0 0, .slice none 0 0, .int .i64 0, .int .i64 0, .int .i64 0, .int .i64 0, .int .i64 0, .int .i64 0, .slice none 0 0], .agg #[.int .i64 0, .int .i64 0, .int .i64 0, .int .i64 0, .int .i64 0, .int .i64 0, .int .i64 0, .slice none 0 0, .int .i64 0, .int .i64 0], .slice none 0 0, .int .i64 0, .int .i64 0], []⟩ 8 (by kernel_rfl) (by kernel_rfl) (by kernel_rfl) (by kernel_rfl)) ?_
  intro W base args ds gs before hval0 hW hcnd _
  have hval : ∀ (j : Nat) t v, Tryz.f3.params[j]? = some t → args[j]? = some v → Value.okWide Tryz.prog W .any base t v := hval0
  refine I7 Rz I5 (.cons (.recd (.cons Ti (.cons Tj (.cons (.int .i64) (.cons (.sl Tl) .nil))))) (.cons (.recd (.cons (.int .i64) (.cons (.int .i64) (.cons PX (.cons (.sl Tk) (.cons D8 .nil)))))) (.cons (.sl (.int .i64)) (.cons (.int .i64) (.cons (.int .i64) .nil))))) (by kernel_rfl) rfl rfl Tryz.underlying4 (fun ys _ => rfl) (fun ds hl => ?_) hval hW
  match ds, hl with
  | [d0, d1, d2, d3, d4], _ => exact ⟨rfl, rfl, rfl⟩
theorem topWorth_holds : Rows.TopWorthSaid :=
  OpenClaim.holds_of_wide 3 Tryz.f3 rfl rfl rfl rfl rfl rfl rfl ⟨rfl, rfl, rfl, rfl, rfl⟩ rfl rfl rfl rfl rfl (by kernel_rfl) Tryz.func3 (by kernel_rfl)
    (of_decide_eq_true (by kernel_rfl)) (by unfold Func.isWrapper; first | (rw [if_pos (by decide +kernel)]; kernel_rfl) | (rw [if_neg (by decide +kernel)]; exact ⟨rfl, rfl⟩))
    (fun os started H enc _ => oU os started H enc)
#print axioms topWorth_holds
end Go.Proofs.YtpgfncncgjihpaaGreat
