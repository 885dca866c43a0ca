/- The row of ContactSums: for any scene and elasticity the statement returns true, never panics, and leaves its arguments as they read before. No condition. -/
import Derived.Test.YtnhlnagihokokaaGreatM10
import Derived.Test.YtnhlnagihokokaaGreatM11
import Derived.Test.YtnhlnagihokokaaGreatRows
namespace Go.Proofs.YtnhlnagihokokaaGreat
open Go.ChangeShapes Go.WideShapes Go.ChangeAt Go.RowKit

set_option maxRecDepth 100000 in
theorem contactSums_lifted (os : Os) (started : os.Started) (H : Type) (enc : TypeId × Value → H) :
    ReturnsInHanded {} Tryz.checked os 5 .any (Rows.contactSumsSpec.pre6 enc Tryz.prog Tryz.f5 Rows.contactSumsRow.domain false) (Rows.contactSumsSpec.post enc Tryz.prog Tryz.f5 false true false false) := by
  refine returnsInHanded_of_change (C := Tryz.checked) own_knob started (by kernel_rfl) Tryz.func5
    (ChangeSpec.witness6 (enc := enc) (C := Tryz.checked) false ⟨#[], #[.slice none 0 0, .int .i64 0], []⟩ 8 (by kernel_rfl) (by kernel_rfl) (by kernel_rfl) (by kernel_rfl)) ?_
  intro W base args ds gs before hval0 hW hcnd _
  have hval : ∀ (j : Nat) t v, Tryz.f5.params[j]? = some t → args[j]? = some v → Value.okWide Tryz.prog W .any base t v := hval0
  refine law_post csum_ok laid_out (.cons (.sl bdySh) (.cons (.int .i64) .nil)) (by kernel_rfl) rfl rfl Tryz.underlying4 (fun ys _ => rfl) (fun ds hl => ?_) hval hW
  match ds, hl with
  | [d0, d1], _ => exact ⟨rfl, rfl, rfl⟩

theorem contactSums_holds : Rows.ContactSumsSaid :=
  OpenClaim.holds_of_wide 5 Tryz.f5 rfl rfl rfl rfl rfl rfl rfl ⟨rfl, rfl, rfl, rfl, rfl⟩ rfl rfl rfl rfl rfl (by kernel_rfl) Tryz.func5 (by kernel_rfl)
    (of_decide_eq_true (by kernel_rfl)) (by unfold Func.isWrapper; first | (rw [if_pos (by decide +kernel)]; kernel_rfl) | (rw [if_neg (by decide +kernel)]; exact ⟨rfl, rfl⟩))
    (fun os started H enc _ => contactSums_lifted os started H enc)
#print axioms contactSums_holds
end Go.Proofs.YtnhlnagihokokaaGreat
