/- The row of MeasureSure: whatever the distances are, within the bounds, their score is among the scores, and is the sure one, if there is one; and a stone that is called nearer is nearer, one that is called in the house is in it. No condition. -/
import Derived.Test.YtjfopfhkfmknlaaM10
import Derived.Test.YtjfopfhkfmknlaaM8
import Derived.Test.YtjfopfhkfmknlaaRows
namespace Go.Proofs.Ytjfopfhkfmknlaa
open Go.ChangeShapes Go.WideShapes Go.ChangeAt Go.RowKit

set_option maxRecDepth 100000 in
theorem measureSure_lifted (os : Os) (started : os.Started) (H : Type) (enc : TypeId × Value → H) :
    ReturnsInHanded {} Try.checked os 5 .any (Rows.measureSureSpec.pre6 enc Try.prog Try.f5 Rows.measureSureRow.domain false) (Rows.measureSureSpec.post enc Try.prog Try.f5 false true false false) := by
  refine returnsInHanded_of_change (C := Try.checked) own_knob started (by kernel_rfl) Try.func5
    (ChangeSpec.witness6 (enc := enc) (C := Try.checked) false ⟨#[], #[.slice none 0 0, .slice none 0 0, .slice none 0 0], []⟩ 8 (by kernel_rfl) (by kernel_rfl) (by kernel_rfl) (by kernel_rfl)) ?_
  intro W base args ds gs before hval0 hW hcnd _
  have hval : ∀ (j : Nat) t v, Try.f5.params[j]? = some t → args[j]? = some v → Value.okWide Try.prog W .any base t v := hval0
  refine law_post msu_ok laid_out (.cons (.sl SnSh) (.cons (.sl RdSh) (.cons (.sl (.int .u16)) .nil))) (by kernel_rfl) rfl rfl Try.underlying4 (fun ys h => congrArg (fun q => bif q then some (b1 true) else none) ((u16B_iff _).2 fun n hn => u16_in (h.2.2.1.2 n hn))) (fun ds hl => ?_) hval hW
  match ds, hl with
  | [d0, d1, d2], _ => exact ⟨rfl, rfl, rfl⟩

theorem measureSure_holds : Rows.MeasureSureSaid :=
  OpenClaim.holds_of_wide 5 Try.f5 rfl rfl rfl rfl rfl rfl rfl ⟨rfl, rfl, rfl, rfl, rfl⟩ rfl rfl rfl rfl rfl (by kernel_rfl) Try.func5 (by kernel_rfl)
    (of_decide_eq_true (by kernel_rfl)) (by unfold Func.isWrapper; first | (rw [if_pos (by decide +kernel)]; kernel_rfl) | (rw [if_neg (by decide +kernel)]; exact ⟨rfl, rfl⟩))
    (fun os started H enc _ => measureSure_lifted os started H enc)
#print axioms measureSure_holds
end Go.Proofs.Ytjfopfhkfmknlaa
