/- The row of MeasureTrue: if each tool keeps to its error, the true score of the stones, by the exact comparison of their places, is among the scores, and no stone that is farther is called nearer. No condition. -/
import Derived.Test.YtfbiblmlcepdlaaM11
import Derived.Test.YtfbiblmlcepdlaaM9
import Derived.Test.YtfbiblmlcepdlaaRows
namespace Go.Proofs.Ytfbiblmlcepdlaa
open Go.ChangeShapes Go.WideShapes Go.ChangeAt Go.RowKit

set_option maxRecDepth 100000 in
theorem measureTrue_lifted (os : Os) (started : os.Started) (H : Type) (enc : TypeId × Value → H) :
    ReturnsInHanded {} Try.checked os 4 .any (Rows.measureTrueSpec.pre6 enc Try.prog Try.f4 Rows.measureTrueRow.domain false) (Rows.measureTrueSpec.post enc Try.prog Try.f4 false true false false) := by
  refine returnsInHanded_of_change (C := Try.checked) own_knob started (by kernel_rfl) Try.func4
    (ChangeSpec.witness6 (enc := enc) (C := Try.checked) false ⟨#[], #[.slice none 0 0, .agg #[.int .i64 0, .int .i64 0], .slice none 0 0], []⟩ 8 (by kernel_rfl) (by kernel_rfl) (by kernel_rfl) (by kernel_rfl)) ?_
  intro W base args ds gs before hval0 hW hcnd _
  have hval : ∀ (j : Nat) t v, Try.f4.params[j]? = some t → args[j]? = some v → Value.okWide Try.prog W .any base t v := hval0
  refine law_post mtr_ok laid_out (.cons (.sl SnSh) (.cons nmSh (.cons (.sl (.int .i16)) .nil))) (by kernel_rfl) rfl rfl Try.underlying4 (fun ys h => rfl) (fun ds hl => ?_) hval hW
  match ds, hl with
  | [d0, d1, d2], _ => exact ⟨rfl, rfl, rfl⟩

theorem measureTrue_holds : Rows.MeasureTrueSaid :=
  OpenClaim.holds_of_wide 4 Try.f4 rfl rfl rfl rfl rfl rfl rfl ⟨rfl, rfl, rfl, rfl, rfl⟩ rfl rfl rfl rfl rfl (by kernel_rfl) Try.func4 (by kernel_rfl)
    (of_decide_eq_true (by kernel_rfl)) (by unfold Func.isWrapper; first | (rw [if_pos (by decide +kernel)]; kernel_rfl) | (rw [if_neg (by decide +kernel)]; exact ⟨rfl, rfl⟩))
    (fun os started H enc _ => measureTrue_lifted os started H enc)
#print axioms measureTrue_holds
end Go.Proofs.Ytfbiblmlcepdlaa
