/- The row of SkillGrows: for all counts, steps of the values, events, doubts and times the statement returns true, never panics, and leaves its arguments as they read before. No condition. -/
import Derived.Test.YteaadpgpihggeaaM9
import Derived.Test.YteaadpgpihggeaaRows
namespace Go.Proofs.Yteaadpgpihggeaa
open Go.ChangeShapes Go.WideShapes Go.ChangeAt Go.RowKit

set_option maxRecDepth 100000 in
theorem skillGrows_lifted (os : Os) (started : os.Started) (H : Type) (enc : TypeId × Value → H) :
    ReturnsInHanded {} Try.checked os 3 .any (Rows.skillGrowsSpec.pre6 enc Try.prog Try.f3 Rows.skillGrowsRow.domain false) (Rows.skillGrowsSpec.post enc Try.prog Try.f3 false true false false) := by
  refine returnsInHanded_of_change (C := Try.checked) own_knob started (by kernel_rfl) Try.func3
    (ChangeSpec.witness6 (enc := enc) (C := Try.checked) false ⟨#[], #[.slice none 0 0, .slice none 0 0, .slice none 0 0, .slice none 0 0, .int .i64 0, .int .u8 0], []⟩ 8 (by kernel_rfl) (by kernel_rfl) (by kernel_rfl) (by kernel_rfl)) ?_
  intro W base args ds gs before hval0 hW hcnd _
  have hval : ∀ (j : Nat) t v, Try.f3.params[j]? = some t → args[j]? = some v → Value.okWide Try.prog W .any base t v := hval0
  refine law_post grows_ok laid_out (growsSs) (by kernel_rfl) rfl rfl Try.underlying4 (grows_wf) (fun ds hl => ?_) hval hW
  match ds, hl with
  | [d0, d1, d2, d3, d4, d5], _ => exact ⟨rfl, rfl, rfl⟩

theorem skillGrows_holds : Rows.SkillGrowsSaid :=
  OpenClaim.holds_of_wide 3 Try.f3 rfl rfl rfl rfl rfl rfl rfl ⟨rfl, rfl, rfl, rfl, rfl⟩ rfl rfl rfl rfl rfl (by kernel_rfl) Try.func3 (by kernel_rfl)
    (of_decide_eq_true (by kernel_rfl)) (by unfold Func.isWrapper; first | (rw [if_pos (by decide +kernel)]; kernel_rfl) | (rw [if_neg (by decide +kernel)]; exact ⟨rfl, rfl⟩))
    (fun os started H enc _ => skillGrows_lifted os started H enc)
#print axioms skillGrows_holds
end Go.Proofs.Yteaadpgpihggeaa
