/- The row of MeasureAll: each score that is told is that of some distances within the bounds, and no other one is. No condition. -/
import Derived.Test.YtjfopfhkfmknlaaM10
import Derived.Test.YtjfopfhkfmknlaaM8
import Derived.Test.YtjfopfhkfmknlaaRows
namespace Go.Proofs.Ytjfopfhkfmknlaa
open Go.ChangeShapes Go.WideShapes Go.ChangeAt Go.RowKit

set_option maxRecDepth 100000 in
theorem measureAll_lifted (os : Os) (started : os.Started) (H : Type) (enc : TypeId × Value → H) :
    ReturnsInHanded {} Try.checked os 3 .any (Rows.measureAllSpec.pre6 enc Try.prog Try.f3 Rows.measureAllRow.domain false) (Rows.measureAllSpec.post enc Try.prog Try.f3 false true false false) := by
  refine returnsInHanded_of_change (C := Try.checked) own_knob started (by kernel_rfl) Try.func3
    (ChangeSpec.witness6 (enc := enc) (C := Try.checked) false ⟨#[], #[.slice none 0 0, .agg #[.int .u8 0, .int .u8 0, .int .u8 0, .int .u8 0], .agg #[.int .u8 0, .int .u8 0, .int .u8 0, .int .u8 0], .bool false], []⟩ 8 (by kernel_rfl) (by kernel_rfl) (by kernel_rfl) (by kernel_rfl)) ?_
  intro W base args ds gs before hval0 hW hcnd _
  have hval : ∀ (j : Nat) t v, Try.f3.params[j]? = some t → args[j]? = some v → Value.okWide Try.prog W .any base t v := hval0
  refine law_post mla_ok laid_out (.cons (.sl SnSh) (.cons A4Sh (.cons A4Sh (.cons .bool .nil)))) (by kernel_rfl) rfl rfl Try.underlying4 (mla_wf) (fun ds hl => ?_) hval hW
  match ds, hl with
  | [d0, d1, d2, d3], _ => exact ⟨rfl, rfl, rfl⟩

theorem measureAll_holds : Rows.MeasureAllSaid :=
  OpenClaim.holds_of_wide 3 Try.f3 rfl rfl rfl rfl rfl rfl rfl ⟨rfl, rfl, rfl, rfl, rfl⟩ rfl rfl rfl rfl rfl (by kernel_rfl) Try.func3 (by kernel_rfl)
    (of_decide_eq_true (by kernel_rfl)) (by unfold Func.isWrapper; first | (rw [if_pos (by decide +kernel)]; kernel_rfl) | (rw [if_neg (by decide +kernel)]; exact ⟨rfl, rfl⟩))
    (fun os started H enc _ => measureAll_lifted os started H enc)
#print axioms measureAll_holds
end Go.Proofs.Ytjfopfhkfmknlaa
