/- The row of GlideNames: the statement returns true and never panics. No condition. -/
import Derived.Test.YtgpljldfbhkdlaaGreatM9
import Derived.Test.YtgpljldfbhkdlaaGreatM10
import Derived.Test.YtgpljldfbhkdlaaGreatRows
namespace Go.Proofs.YtgpljldfbhkdlaaGreat
open Go.ChangeShapes Go.WideShapes Go.ChangeAt Go.RowKit

set_option maxRecDepth 100000 in
theorem glideNames_lifted (os : Os) (started : os.Started) (H : Type) (enc : TypeId × Value → H) :
    ReturnsInHanded {} Tryz.checked os 11 .any (Rows.glideNamesSpec.pre6 enc Tryz.prog Tryz.f11 Rows.glideNamesRow.domain false) (Rows.glideNamesSpec.post enc Tryz.prog Tryz.f11 false true false false) := by
  refine returnsInHanded_of_change (C := Tryz.checked) own_knob started (by kernel_rfl) Tryz.func11
    (ChangeSpec.witness6 (enc := enc) (C := Tryz.checked) false ⟨#[], #[], []⟩ 8 (by kernel_rfl) (by kernel_rfl) (by kernel_rfl) (by kernel_rfl)) ?_
  intro W base args ds gs before hval0 hW hcnd _
  have hval : ∀ (j : Nat) t v, Tryz.f11.params[j]? = some t → args[j]? = some v → Value.okWide Tryz.prog W .any base t v := hval0
  refine law_post gnames_ok laid_out (.nil) (by kernel_rfl) rfl rfl Tryz.underlying4 (fun ys h => rfl) (fun ds hl => ?_) hval hW
  match ds, hl with
  | [], _ => exact ⟨rfl, rfl, rfl⟩

theorem glideNames_holds : Rows.GlideNamesSaid :=
  OpenClaim.holds_of_wide 11 Tryz.f11 rfl rfl rfl rfl rfl rfl rfl ⟨rfl, rfl, rfl, rfl, rfl⟩ rfl rfl rfl rfl rfl (by kernel_rfl) Tryz.func11 (by kernel_rfl)
    (of_decide_eq_true (by kernel_rfl)) (by unfold Func.isWrapper; first | (rw [if_pos (by decide +kernel)]; kernel_rfl) | (rw [if_neg (by decide +kernel)]; exact ⟨rfl, rfl⟩))
    (fun os started H enc _ => glideNames_lifted os started H enc)
#print axioms glideNames_holds
end Go.Proofs.YtgpljldfbhkdlaaGreat
