/- The row of ContactScenes: for any scene and stones the statement returns true, never panics, and leaves its arguments as they read before. No condition. -/
import Derived.Test.YteaadpgpihggeaaGreatM9
import Derived.Test.YteaadpgpihggeaaGreatM10
import Derived.Test.YteaadpgpihggeaaGreatRows
namespace Go.Proofs.YteaadpgpihggeaaGreat
open Go.ChangeShapes Go.WideShapes Go.ChangeAt Go.RowKit

set_option maxRecDepth 100000 in
theorem contactScenes_lifted (os : Os) (started : os.Started) (H : Type) (enc : TypeId × Value → H) :
    ReturnsInHanded {} Tryz.checked os 3 .any (Rows.contactScenesSpec.pre6 enc Tryz.prog Tryz.f3 Rows.contactScenesRow.domain false) (Rows.contactScenesSpec.post enc Tryz.prog Tryz.f3 false true false false) := by
  refine returnsInHanded_of_change (C := Tryz.checked) own_knob started (by kernel_rfl) Tryz.func3
    (ChangeSpec.witness6 (enc := enc) (C := Tryz.checked) false ⟨#[], #[.slice none 0 0, .slice none 0 0], []⟩ 8 (by kernel_rfl) (by kernel_rfl) (by kernel_rfl) (by kernel_rfl)) ?_
  intro W base args ds gs before hval0 hW hcnd _
  have hval : ∀ (j : Nat) t v, Tryz.f3.params[j]? = some t → args[j]? = some v → Value.okWide Tryz.prog W .any base t v := hval0
  refine law_post cscn_ok laid_out (.cons (.sl (.recd (.cons (.int .i64) (.cons (.int .i64) (.cons (.recd (.cons (.recd (.cons (.int .i64) (.cons (.int .i64) .nil))) (.cons (.recd (.cons (.int .i64) (.cons (.int .i64) .nil))) (.cons (.int .i64) .nil)))) (.cons .bool .nil)))))) (.cons (.sl (.recd (.cons (.int .i64) (.cons (.int .i64) (.cons (.recd (.cons (.int .i64) (.cons (.int .i64) .nil))) .nil))))) .nil)) (by kernel_rfl) rfl rfl Tryz.underlying4 (fun ys _ => rfl) (fun ds hl => ?_) hval hW
  match ds, hl with
  | [d0, d1], _ => exact ⟨rfl, rfl, rfl⟩

theorem contactScenes_holds : Rows.ContactScenesSaid :=
  OpenClaim.holds_of_wide 3 Tryz.f3 rfl rfl rfl rfl rfl rfl rfl ⟨rfl, rfl, rfl, rfl, rfl⟩ rfl rfl rfl rfl rfl (by kernel_rfl) Tryz.func3 (by kernel_rfl)
    (of_decide_eq_true (by kernel_rfl)) (by unfold Func.isWrapper; first | (rw [if_pos (by decide +kernel)]; kernel_rfl) | (rw [if_neg (by decide +kernel)]; exact ⟨rfl, rfl⟩))
    (fun os started H enc _ => contactScenes_lifted os started H enc)
#print axioms contactScenes_holds
end Go.Proofs.YteaadpgpihggeaaGreat
