/- The row of IceNames: the statement returns true and never panics. No condition. -/
import Derived.Test.YtbcjhjidhhecaaaM10
import Derived.Test.YtbcjhjidhhecaaaM11
import Derived.Test.YtbcjhjidhhecaaaRows
namespace Go.Proofs.Ytbcjhjidhhecaaa
open Go.ChangeShapes Go.WideShapes Go.ChangeAt Go.RowKit

set_option maxRecDepth 100000 in
theorem iceNames_lifted (os : Os) (started : os.Started) (H : Type) (enc : TypeId × Value → H) :
    ReturnsInHanded {} Try.checked os 8 .any (Rows.iceNamesSpec.pre6 enc Try.prog Try.f8 Rows.iceNamesRow.domain false) (Rows.iceNamesSpec.post enc Try.prog Try.f8 false true false false) := by
  refine returnsInHanded_of_change (C := Try.checked) own_knob started (by kernel_rfl) Try.func8
    (ChangeSpec.witness6 (enc := enc) (C := Try.checked) false ⟨#[], #[], []⟩ 8 (by kernel_rfl) (by kernel_rfl) (by kernel_rfl) (by kernel_rfl)) ?_
  intro W base args ds gs before hval0 hW hcnd _
  have hval : ∀ (j : Nat) t v, Try.f8.params[j]? = some t → args[j]? = some v → Value.okWide Try.prog W .any base t v := hval0
  refine law_post inames_ok laid_out (.nil) (by kernel_rfl) rfl rfl Try.underlying4 (fun ys h => rfl) (fun ds hl => ?_) hval hW
  match ds, hl with
  | [], _ => exact ⟨rfl, rfl, rfl⟩

theorem iceNames_holds : Rows.IceNamesSaid :=
  OpenClaim.holds_of_wide 8 Try.f8 rfl rfl rfl rfl rfl rfl rfl ⟨rfl, rfl, rfl, rfl, rfl⟩ rfl rfl rfl rfl rfl (by kernel_rfl) Try.func8 (by kernel_rfl)
    (of_decide_eq_true (by kernel_rfl)) (by unfold Func.isWrapper; first | (rw [if_pos (by decide +kernel)]; kernel_rfl) | (rw [if_neg (by decide +kernel)]; exact ⟨rfl, rfl⟩))
    (fun os started H enc _ => iceNames_lifted os started H enc)
#print axioms iceNames_holds
end Go.Proofs.Ytbcjhjidhhecaaa
