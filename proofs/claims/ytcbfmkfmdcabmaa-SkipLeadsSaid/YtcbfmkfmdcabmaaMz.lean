/- The row of SkipLeads: a greater lead never has a lesser hope; one more style of the team 0 lowers no hope, one of the team 1 raises none. No condition. -/
import Derived.Test.YtcbfmkfmdcabmaaM10
import Derived.Test.YtcbfmkfmdcabmaaRows
namespace Go.Proofs.Ytcbfmkfmdcabmaa
open Go.ChangeShapes Go.WideShapes Go.ChangeAt Go.RowKit

set_option maxRecDepth 100000 in
theorem skipLeads_lifted (os : Os) (started : os.Started) (H : Type) (enc : TypeId × Value → H) :
    ReturnsInHanded {} Try.checked os 5 .any (Rows.skipLeadsSpec.pre6 enc Try.prog Try.f5 Rows.skipLeadsRow.domain false) (Rows.skipLeadsSpec.post enc Try.prog Try.f5 false true false false) := by
  refine returnsInHanded_of_change (C := Try.checked) own_knob started (by kernel_rfl) Try.func5
    (ChangeSpec.witness6 (enc := enc) (C := Try.checked) false ⟨#[], #[.agg #[.int .i64 0, .slice none 0 0, .slice none 0 0], .agg #[.int .i64 0, .int .i64 0, .int .i64 0], .int .u8 0, .slice none 0 0], []⟩ 8 (by kernel_rfl) (by kernel_rfl) (by kernel_rfl) (by kernel_rfl)) ?_
  intro W base args ds gs before hval0 hW hcnd _
  have hval : ∀ (j : Nat) t v, Try.f5.params[j]? = some t → args[j]? = some v → Value.okWide Try.prog W .any base t v := hval0
  refine law_post kle_ok laid_out (.cons rvSh (.cons GsSh (.cons (.int .u8) (.cons (.sl (.int .i64)) .nil)))) (by kernel_rfl) rfl rfl Try.underlying4 (fun ys h => if_pos (u8B_wf h.2.2.1)) (fun ds hl => ?_) hval hW
  match ds, hl with
  | [d0, d1, d2, d3], _ => exact ⟨rfl, rfl, rfl⟩

theorem skipLeads_holds : Rows.SkipLeadsSaid :=
  OpenClaim.holds_of_wide 5 Try.f5 rfl rfl rfl rfl rfl rfl rfl ⟨rfl, rfl, rfl, rfl, rfl⟩ rfl rfl rfl rfl rfl (by kernel_rfl) Try.func5 (by kernel_rfl)
    (of_decide_eq_true (by kernel_rfl)) (by unfold Func.isWrapper; first | (rw [if_pos (by decide +kernel)]; kernel_rfl) | (rw [if_neg (by decide +kernel)]; exact ⟨rfl, rfl⟩))
    (fun os started H enc _ => skipLeads_lifted os started H enc)
#print axioms skipLeads_holds
end Go.Proofs.Ytcbfmkfmdcabmaa
