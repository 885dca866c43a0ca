/- The row of IceFar: for any ice, grain, way and more of it the statement returns true, never panics, and leaves its arguments as they read before. No condition. -/
import Derived.Test.YtbcjhjidhhecaaaM10
import Derived.Test.YtbcjhjidhhecaaaM11
import Derived.Test.YtbcjhjidhhecaaaRows
namespace Go.Proofs.Ytbcjhjidhhecaaa
open Go.ChangeShapes Go.WideShapes Go.ChangeAt Go.RowKit

set_option maxRecDepth 100000 in
theorem iceFar_lifted (os : Os) (started : os.Started) (H : Type) (enc : TypeId × Value → H) :
    ReturnsInHanded {} Try.checked os 4 .any (Rows.iceFarSpec.pre6 enc Try.prog Try.f4 Rows.iceFarRow.domain false) (Rows.iceFarSpec.post enc Try.prog Try.f4 false true false false) := by
  refine returnsInHanded_of_change (C := Try.checked) own_knob started (by kernel_rfl) Try.func4
    (ChangeSpec.witness6 (enc := enc) (C := Try.checked) false ⟨#[], #[.agg #[.int .i64 0, .int .i64 0, .int .i64 0, .int .i64 0, .int .i64 0, .slice none 0 0, .slice none 0 0], .agg #[.int .i64 0, .int .i64 0, .int .i64 0, .int .i64 0, .int .i64 0], .agg #[.int .i64 0, .int .i64 0], .int .i64 0, .int .u32 0, .bool false], []⟩ 8 (by kernel_rfl) (by kernel_rfl) (by kernel_rfl) (by kernel_rfl)) ?_
  intro W base args ds gs before hval0 hW hcnd _
  have hval : ∀ (j : Nat) t v, Try.f4.params[j]? = some t → args[j]? = some v → Value.okWide Try.prog W .any base t v := hval0
  refine law_post ifar_ok laid_out (.cons iceSh (.cons graSh (.cons spoSh (.cons (.int .i64) (.cons (.int .u32) (.cons .bool .nil)))))) (by kernel_rfl) rfl rfl Try.underlying4 (fun ys h => if_pos (u32_in h.2.2.2.2.1)) (fun ds hl => ?_) hval hW
  match ds, hl with
  | [d0, d1, d2, d3, d4, d5], _ => exact ⟨rfl, rfl, rfl⟩

theorem iceFar_holds : Rows.IceFarSaid :=
  OpenClaim.holds_of_wide 4 Try.f4 rfl rfl rfl rfl rfl rfl rfl ⟨rfl, rfl, rfl, rfl, rfl⟩ rfl rfl rfl rfl rfl (by kernel_rfl) Try.func4 (by kernel_rfl)
    (of_decide_eq_true (by kernel_rfl)) (by unfold Func.isWrapper; first | (rw [if_pos (by decide +kernel)]; kernel_rfl) | (rw [if_neg (by decide +kernel)]; exact ⟨rfl, rfl⟩))
    (fun os started H enc _ => iceFar_lifted os started H enc)
#print axioms iceFar_holds
end Go.Proofs.Ytbcjhjidhhecaaa
