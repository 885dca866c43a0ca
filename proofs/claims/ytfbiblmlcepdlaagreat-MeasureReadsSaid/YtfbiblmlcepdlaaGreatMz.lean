/- The row of MeasureReads: whether any stones are valid, their distances, and any tool's reading, or the error, are the document's. No condition. -/
import Derived.Test.YtfbiblmlcepdlaaGreatM10
import Derived.Test.YtfbiblmlcepdlaaGreatM9
import Derived.Test.YtfbiblmlcepdlaaGreatRows
namespace Go.Proofs.YtfbiblmlcepdlaaGreat
open Go.ChangeShapes Go.WideShapes Go.ChangeAt Go.RowKit

set_option maxRecDepth 100000 in
theorem measureReads_lifted (os : Os) (started : os.Started) (H : Type) (enc : TypeId × Value → H) :
    ReturnsInHanded {} Tryz.checked os 3 .any (Rows.measureReadsSpec.pre6 enc Tryz.prog Tryz.f3 Rows.measureReadsRow.domain false) (Rows.measureReadsSpec.post enc Tryz.prog Tryz.f3 false true false false) := by
  refine returnsInHanded_of_change (C := Tryz.checked) own_knob started (by kernel_rfl) Tryz.func3
    (ChangeSpec.witness6 (enc := enc) (C := Tryz.checked) false ⟨#[], #[.slice none 0 0, .agg #[.int .i64 0, .int .i64 0], .int .i64 0, .int .i64 0], []⟩ 8 (by kernel_rfl) (by kernel_rfl) (by kernel_rfl) (by kernel_rfl)) ?_
  intro W base args ds gs before hval0 hW hcnd _
  have hval : ∀ (j : Nat) t v, Tryz.f3.params[j]? = some t → args[j]? = some v → Value.okWide Tryz.prog W .any base t v := hval0
  refine law_post mrs_ok laid_out (.cons (.sl SnSh) (.cons nmSh (.cons (.int .i64) (.cons (.int .i64) .nil)))) (by kernel_rfl) rfl rfl Tryz.underlying4 (fun ys h => rfl) (fun ds hl => ?_) hval hW
  match ds, hl with
  | [d0, d1, d2, d3], _ => exact ⟨rfl, rfl, rfl⟩

theorem measureReads_holds : Rows.MeasureReadsSaid :=
  OpenClaim.holds_of_wide 3 Tryz.f3 rfl rfl rfl rfl rfl rfl rfl ⟨rfl, rfl, rfl, rfl, rfl⟩ rfl rfl rfl rfl rfl (by kernel_rfl) Tryz.func3 (by kernel_rfl)
    (of_decide_eq_true (by kernel_rfl)) (by unfold Func.isWrapper; first | (rw [if_pos (by decide +kernel)]; kernel_rfl) | (rw [if_neg (by decide +kernel)]; exact ⟨rfl, rfl⟩))
    (fun os started H enc _ => measureReads_lifted os started H enc)
#print axioms measureReads_holds
end Go.Proofs.YtfbiblmlcepdlaaGreat
