/- The row of SkipMirrors: if the teams change places, each hope becomes what is left of it to One, the other way round, and the same style is best, and as surely. No condition. -/
import Derived.Test.YtcbfmkfmdcabmaaM10
import Derived.Test.YtcbfmkfmdcabmaaRows
namespace Go.Proofs.Ytcbfmkfmdcabmaa
open Go.ChangeShapes Go.WideShapes Go.ChangeAt Go.RowKit

set_option maxRecDepth 100000 in
theorem skipMirrors_lifted (os : Os) (started : os.Started) (H : Type) (enc : TypeId × Value → H) :
    ReturnsInHanded {} Try.checked os 6 .any (Rows.skipMirrorsSpec.pre6 enc Try.prog Try.f6 Rows.skipMirrorsRow.domain false) (Rows.skipMirrorsSpec.post enc Try.prog Try.f6 false true false false) := by
  refine returnsInHanded_of_change (C := Try.checked) own_knob started (by kernel_rfl) Try.func6
    (ChangeSpec.witness6 (enc := enc) (C := Try.checked) false ⟨#[], #[.agg #[.int .i64 0, .slice none 0 0, .slice none 0 0], .agg #[.int .i64 0, .int .i64 0, .int .i64 0]], []⟩ 8 (by kernel_rfl) (by kernel_rfl) (by kernel_rfl) (by kernel_rfl)) ?_
  intro W base args ds gs before hval0 hW hcnd _
  have hval : ∀ (j : Nat) t v, Try.f6.params[j]? = some t → args[j]? = some v → Value.okWide Try.prog W .any base t v := hval0
  refine law_post kmi_ok laid_out (.cons rvSh (.cons GsSh .nil)) (by kernel_rfl) rfl rfl Try.underlying4 (fun ys h => if_pos ⟨i64B_wf h.2.1.2.1, i64B_wf h.2.1.2.2.1⟩) (fun ds hl => ?_) hval hW
  match ds, hl with
  | [d0, d1], _ => exact ⟨rfl, rfl, rfl⟩

theorem skipMirrors_holds : Rows.SkipMirrorsSaid :=
  OpenClaim.holds_of_wide 6 Try.f6 rfl rfl rfl rfl rfl rfl rfl ⟨rfl, rfl, rfl, rfl, rfl⟩ rfl rfl rfl rfl rfl (by kernel_rfl) Try.func6 (by kernel_rfl)
    (of_decide_eq_true (by kernel_rfl)) (by unfold Func.isWrapper; first | (rw [if_pos (by decide +kernel)]; kernel_rfl) | (rw [if_neg (by decide +kernel)]; exact ⟨rfl, rfl⟩))
    (fun os started H enc _ => skipMirrors_lifted os started H enc)
#print axioms skipMirrors_holds
end Go.Proofs.Ytcbfmkfmdcabmaa
