/- The row of MeasureDoubtless: if there are no doubts, and of each stone it is known whether it is in the house, the score is sure. No condition. -/
import Derived.Test.YtjfopfhkfmknlaaM10
import Derived.Test.YtjfopfhkfmknlaaM8
import Derived.Test.YtjfopfhkfmknlaaRows
namespace Go.Proofs.Ytjfopfhkfmknlaa
open Go.ChangeShapes Go.WideShapes Go.ChangeAt Go.RowKit

set_option maxRecDepth 100000 in
theorem measureDoubtless_lifted (os : Os) (started : os.Started) (H : Type) (enc : TypeId × Value → H) :
    ReturnsInHanded {} Try.checked os 8 .any (Rows.measureDoubtlessSpec.pre6 enc Try.prog Try.f8 Rows.measureDoubtlessRow.domain false) (Rows.measureDoubtlessSpec.post enc Try.prog Try.f8 false true false false) := by
  refine returnsInHanded_of_change (C := Try.checked) own_knob started (by kernel_rfl) Try.func8
    (ChangeSpec.witness6 (enc := enc) (C := Try.checked) false ⟨#[], #[.slice none 0 0, .slice none 0 0], []⟩ 8 (by kernel_rfl) (by kernel_rfl) (by kernel_rfl) (by kernel_rfl)) ?_
  intro W base args ds gs before hval0 hW hcnd _
  have hval : ∀ (j : Nat) t v, Try.f8.params[j]? = some t → args[j]? = some v → Value.okWide Try.prog W .any base t v := hval0
  refine law_post mdl_ok laid_out (.cons (.sl SnSh) (.cons (.sl RdSh) .nil)) (by kernel_rfl) rfl rfl Try.underlying4 (fun ys h => rfl) (fun ds hl => ?_) hval hW
  match ds, hl with
  | [d0, d1], _ => exact ⟨rfl, rfl, rfl⟩

theorem measureDoubtless_holds : Rows.MeasureDoubtlessSaid :=
  OpenClaim.holds_of_wide 8 Try.f8 rfl rfl rfl rfl rfl rfl rfl ⟨rfl, rfl, rfl, rfl, rfl⟩ rfl rfl rfl rfl rfl (by kernel_rfl) Try.func8 (by kernel_rfl)
    (of_decide_eq_true (by kernel_rfl)) (by unfold Func.isWrapper; first | (rw [if_pos (by decide +kernel)]; kernel_rfl) | (rw [if_neg (by decide +kernel)]; exact ⟨rfl, rfl⟩))
    (fun os started H enc _ => measureDoubtless_lifted os started H enc)
#print axioms measureDoubtless_holds
end Go.Proofs.Ytjfopfhkfmknlaa
