/- The row of MeasureScores: all scores, the sure one, and the doubts of any stones and readings, or the error, are the document's; stones and readings stay. No condition. -/
import Derived.Test.YtfbiblmlcepdlaaM10
import Derived.Test.YtfbiblmlcepdlaaM8
import Derived.Test.YtfbiblmlcepdlaaRows
namespace Go.Proofs.Ytfbiblmlcepdlaa
open Go.ChangeShapes Go.WideShapes Go.ChangeAt Go.RowKit

set_option maxRecDepth 100000 in
theorem measureScores_lifted (os : Os) (started : os.Started) (H : Type) (enc : TypeId × Value → H) :
    ReturnsInHanded {} Try.checked os 3 .any (Rows.measureScoresSpec.pre6 enc Try.prog Try.f3 Rows.measureScoresRow.domain false) (Rows.measureScoresSpec.post enc Try.prog Try.f3 false true false false) := by
  refine returnsInHanded_of_change (C := Try.checked) own_knob started (by kernel_rfl) Try.func3
    (ChangeSpec.witness6 (enc := enc) (C := Try.checked) false ⟨#[], #[.slice none 0 0, .slice none 0 0], []⟩ 8 (by kernel_rfl) (by kernel_rfl) (by kernel_rfl) (by kernel_rfl)) ?_
  intro W base args ds gs before hval0 hW hcnd _
  have hval : ∀ (j : Nat) t v, Try.f3.params[j]? = some t → args[j]? = some v → Value.okWide Try.prog W .any base t v := hval0
  refine law_post mss_ok laid_out (.cons (.sl SnSh) (.cons (.sl RdSh) .nil)) (by kernel_rfl) rfl rfl Try.underlying4 (fun ys h => rfl) (fun ds hl => ?_) hval hW
  match ds, hl with
  | [d0, d1], _ => exact ⟨rfl, rfl, rfl⟩

theorem measureScores_holds : Rows.MeasureScoresSaid :=
  OpenClaim.holds_of_wide 3 Try.f3 rfl rfl rfl rfl rfl rfl rfl ⟨rfl, rfl, rfl, rfl, rfl⟩ rfl rfl rfl rfl rfl (by kernel_rfl) Try.func3 (by kernel_rfl)
    (of_decide_eq_true (by kernel_rfl)) (by unfold Func.isWrapper; first | (rw [if_pos (by decide +kernel)]; kernel_rfl) | (rw [if_neg (by decide +kernel)]; exact ⟨rfl, rfl⟩))
    (fun os started H enc _ => measureScores_lifted os started H enc)
#print axioms measureScores_holds
end Go.Proofs.Ytfbiblmlcepdlaa
