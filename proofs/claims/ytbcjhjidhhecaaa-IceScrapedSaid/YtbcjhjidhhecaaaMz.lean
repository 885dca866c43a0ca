/- The row of IceScraped: for any ice, box, depth and drops the statement returns true, never panics, and leaves its arguments as they read before. No condition. -/
import Derived.Test.YtbcjhjidhhecaaaM9
import Derived.Test.YtbcjhjidhhecaaaM10
import Derived.Test.YtbcjhjidhhecaaaRows
namespace Go.Proofs.Ytbcjhjidhhecaaa
open Go.ChangeShapes Go.WideShapes Go.ChangeAt Go.RowKit

set_option maxRecDepth 100000 in
theorem iceScraped_lifted (os : Os) (started : os.Started) (H : Type) (enc : TypeId × Value → H) :
    ReturnsInHanded {} Try.checked os 7 .any (Rows.iceScrapedSpec.pre6 enc Try.prog Try.f7 Rows.iceScrapedRow.domain false) (Rows.iceScrapedSpec.post enc Try.prog Try.f7 false true false false) := by
  refine returnsInHanded_of_change (C := Try.checked) own_knob started (by kernel_rfl) Try.func7
    (ChangeSpec.witness6 (enc := enc) (C := Try.checked) false ⟨#[], #[.agg #[.int .i64 0, .int .i64 0, .int .i64 0, .int .i64 0, .int .i64 0, .slice none 0 0, .slice none 0 0], .agg #[.int .i64 0, .int .i64 0], .agg #[.int .i64 0, .int .i64 0], .int .u16 0, .int .u16 0, .bool false], []⟩ 8 (by kernel_rfl) (by kernel_rfl) (by kernel_rfl) (by kernel_rfl)) ?_
  intro W base args ds gs before hval0 hW hcnd _
  have hval : ∀ (j : Nat) t v, Try.f7.params[j]? = some t → args[j]? = some v → Value.okWide Try.prog W .any base t v := hval0
  refine law_post iscraped_ok laid_out (.cons iceSh (.cons spoSh (.cons spoSh (.cons (.int .u16) (.cons (.int .u16) (.cons .bool .nil)))))) (by kernel_rfl) rfl rfl Try.underlying4 (fun ys h => if_pos ⟨u16_in h.2.2.2.1, u16_in h.2.2.2.2.1⟩) (fun ds hl => ?_) hval hW
  match ds, hl with
  | [d0, d1, d2, d3, d4, d5], _ => exact ⟨rfl, rfl, rfl⟩

theorem iceScraped_holds : Rows.IceScrapedSaid :=
  OpenClaim.holds_of_wide 7 Try.f7 rfl rfl rfl rfl rfl rfl rfl ⟨rfl, rfl, rfl, rfl, rfl⟩ rfl rfl rfl rfl rfl (by kernel_rfl) Try.func7 (by kernel_rfl)
    (of_decide_eq_true (by kernel_rfl)) (by unfold Func.isWrapper; first | (rw [if_pos (by decide +kernel)]; kernel_rfl) | (rw [if_neg (by decide +kernel)]; exact ⟨rfl, rfl⟩))
    (fun os started H enc _ => iceScraped_lifted os started H enc)
#print axioms iceScraped_holds
end Go.Proofs.Ytbcjhjidhhecaaa
