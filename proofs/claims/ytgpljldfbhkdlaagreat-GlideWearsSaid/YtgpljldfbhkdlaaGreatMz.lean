/- The row of GlideWears: for any ice, grain, stone, brooms and ticks the statement returns true, never panics, and leaves its arguments as they read before. No condition. -/
import Derived.Test.YtgpljldfbhkdlaaGreatM12
import Derived.Test.YtgpljldfbhkdlaaGreatM13
import Derived.Test.YtgpljldfbhkdlaaGreatRows
namespace Go.Proofs.YtgpljldfbhkdlaaGreat
open Go.ChangeShapes Go.WideShapes Go.ChangeAt Go.RowKit

set_option maxRecDepth 100000 in
theorem glideWears_lifted (os : Os) (started : os.Started) (H : Type) (enc : TypeId × Value → H) :
    ReturnsInHanded {} Tryz.checked os 10 .any (Rows.glideWearsSpec.pre6 enc Tryz.prog Tryz.f10 Rows.glideWearsRow.domain false) (Rows.glideWearsSpec.post enc Tryz.prog Tryz.f10 false true false false) := by
  refine returnsInHanded_of_change (C := Tryz.checked) own_knob started (by kernel_rfl) Tryz.func10
    (ChangeSpec.witness6 (enc := enc) (C := Tryz.checked) false ⟨#[], #[.agg #[.int .i64 0, .int .i64 0, .int .i64 0, .int .i64 0, .int .i64 0, .slice none 0 0, .slice none 0 0, .int .i64 0, .int .i64 0, .int .i64 0, .int .i64 0, .int .i64 0], .agg #[.int .i64 0, .int .i64 0, .int .i64 0, .int .i64 0, .int .i64 0], .slice none 0 0, .int .i64 0], []⟩ 8 (by kernel_rfl) (by kernel_rfl) (by kernel_rfl) (by kernel_rfl)) ?_
  intro W base args ds gs before hval0 hW hcnd _
  have hval : ∀ (j : Nat) t v, Tryz.f10.params[j]? = some t → args[j]? = some v → Value.okWide Tryz.prog W .any base t v := hval0
  refine law_post gwear_ok laid_out (.cons rinSh (.cons movSh (.cons (.sl broSh) (.cons (.int .i64) .nil)))) (by kernel_rfl) rfl rfl Tryz.underlying4 (fun ys h => rfl) (fun ds hl => ?_) hval hW
  match ds, hl with
  | [d0, d1, d2, d3], _ => exact ⟨rfl, rfl, rfl⟩

theorem glideWears_holds : Rows.GlideWearsSaid :=
  OpenClaim.holds_of_wide 10 Tryz.f10 rfl rfl rfl rfl rfl rfl rfl ⟨rfl, rfl, rfl, rfl, rfl⟩ rfl rfl rfl rfl rfl (by kernel_rfl) Tryz.func10 (by kernel_rfl)
    (of_decide_eq_true (by kernel_rfl)) (by unfold Func.isWrapper; first | (rw [if_pos (by decide +kernel)]; kernel_rfl) | (rw [if_neg (by decide +kernel)]; exact ⟨rfl, rfl⟩))
    (fun os started H enc _ => glideWears_lifted os started H enc)
#print axioms glideWears_holds
end Go.Proofs.YtgpljldfbhkdlaaGreat
