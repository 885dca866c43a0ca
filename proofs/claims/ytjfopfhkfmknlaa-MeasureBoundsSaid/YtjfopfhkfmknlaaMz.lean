/- The row of MeasureBounds: the bounds of readings, which of two is nearer, whether one is in the house, or the error, are the document's; the readings stay. No condition. -/
import Derived.Test.YtjfopfhkfmknlaaM9
import Derived.Test.YtjfopfhkfmknlaaM8
import Derived.Test.YtjfopfhkfmknlaaRows
namespace Go.Proofs.Ytjfopfhkfmknlaa
open Go.ChangeShapes Go.WideShapes Go.ChangeAt Go.RowKit

set_option maxRecDepth 100000 in
theorem measureBounds_lifted (os : Os) (started : os.Started) (H : Type) (enc : TypeId × Value → H) :
    ReturnsInHanded {} Try.checked os 4 .any (Rows.measureBoundsSpec.pre6 enc Try.prog Try.f4 Rows.measureBoundsRow.domain false) (Rows.measureBoundsSpec.post enc Try.prog Try.f4 false true false false) := by
  refine returnsInHanded_of_change (C := Try.checked) own_knob started (by kernel_rfl) Try.func4
    (ChangeSpec.witness6 (enc := enc) (C := Try.checked) false ⟨#[], #[.int .i64 0, .slice none 0 0, .agg #[.int .i64 0, .int .i64 0, .int .i64 0], .agg #[.int .i64 0, .int .i64 0, .int .i64 0]], []⟩ 8 (by kernel_rfl) (by kernel_rfl) (by kernel_rfl) (by kernel_rfl)) ?_
  intro W base args ds gs before hval0 hW hcnd _
  have hval : ∀ (j : Nat) t v, Try.f4.params[j]? = some t → args[j]? = some v → Value.okWide Try.prog W .any base t v := hval0
  refine law_post mbo_ok laid_out (.cons (.int .i64) (.cons (.sl RdSh) (.cons RdSh (.cons RdSh .nil)))) (by kernel_rfl) rfl rfl Try.underlying4 (fun ys h => rfl) (fun ds hl => ?_) hval hW
  match ds, hl with
  | [d0, d1, d2, d3], _ => exact ⟨rfl, rfl, rfl⟩

theorem measureBounds_holds : Rows.MeasureBoundsSaid :=
  OpenClaim.holds_of_wide 4 Try.f4 rfl rfl rfl rfl rfl rfl rfl ⟨rfl, rfl, rfl, rfl, rfl⟩ rfl rfl rfl rfl rfl (by kernel_rfl) Try.func4 (by kernel_rfl)
    (of_decide_eq_true (by kernel_rfl)) (by unfold Func.isWrapper; first | (rw [if_pos (by decide +kernel)]; kernel_rfl) | (rw [if_neg (by decide +kernel)]; exact ⟨rfl, rfl⟩))
    (fun os started H enc _ => measureBounds_lifted os started H enc)
#print axioms measureBounds_holds
end Go.Proofs.Ytjfopfhkfmknlaa
