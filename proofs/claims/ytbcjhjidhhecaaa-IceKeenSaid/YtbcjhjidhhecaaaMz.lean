/- The row of IceKeen: for any ice, grain, spot and more the statement returns true, never panics, and leaves its arguments as they read before. No condition. -/
import Derived.Test.YtbcjhjidhhecaaaM10
import Derived.Test.YtbcjhjidhhecaaaM11
import Derived.Test.YtbcjhjidhhecaaaRows
namespace Go.Proofs.Ytbcjhjidhhecaaa
open Go.ChangeShapes Go.WideShapes Go.ChangeAt Go.RowKit

set_option maxRecDepth 100000 in
theorem iceKeen_lifted (os : Os) (started : os.Started) (H : Type) (enc : TypeId × Value → H) :
    ReturnsInHanded {} Try.checked os 5 .any (Rows.iceKeenSpec.pre6 enc Try.prog Try.f5 Rows.iceKeenRow.domain false) (Rows.iceKeenSpec.post enc Try.prog Try.f5 false true false false) := by
  refine returnsInHanded_of_change (C := Try.checked) own_knob started (by kernel_rfl) Try.func5
    (ChangeSpec.witness6 (enc := enc) (C := Try.checked) false ⟨#[], #[.agg #[.int .i64 0, .int .i64 0, .int .i64 0, .int .i64 0, .int .i64 0, .slice none 0 0, .slice none 0 0], .agg #[.int .i64 0, .int .i64 0, .int .i64 0, .int .i64 0, .int .i64 0], .agg #[.int .i64 0, .int .i64 0], .agg #[.int .u16 0, .int .u16 0]], []⟩ 8 (by kernel_rfl) (by kernel_rfl) (by kernel_rfl) (by kernel_rfl)) ?_
  intro W base args ds gs before hval0 hW hcnd _
  have hval : ∀ (j : Nat) t v, Try.f5.params[j]? = some t → args[j]? = some v → Value.okWide Try.prog W .any base t v := hval0
  refine law_post ikeen_ok laid_out (.cons iceSh (.cons graSh (.cons spoSh (.cons (.recd (.cons (.int .u16) (.cons (.int .u16) .nil))) .nil)))) (by kernel_rfl) rfl rfl Try.underlying4 (fun ys h => if_pos ⟨u16_in h.2.2.2.1.1, u16_in h.2.2.2.1.2.1⟩) (fun ds hl => ?_) hval hW
  match ds, hl with
  | [d0, d1, d2, d3], _ => exact ⟨rfl, rfl, rfl⟩

theorem iceKeen_holds : Rows.IceKeenSaid :=
  OpenClaim.holds_of_wide 5 Try.f5 rfl rfl rfl rfl rfl rfl rfl ⟨rfl, rfl, rfl, rfl, rfl⟩ rfl rfl rfl rfl rfl (by kernel_rfl) Try.func5 (by kernel_rfl)
    (of_decide_eq_true (by kernel_rfl)) (by unfold Func.isWrapper; first | (rw [if_pos (by decide +kernel)]; kernel_rfl) | (rw [if_neg (by decide +kernel)]; exact ⟨rfl, rfl⟩))
    (fun os started H enc _ => iceKeen_lifted os started H enc)
#print axioms iceKeen_holds
end Go.Proofs.Ytbcjhjidhhecaaa
