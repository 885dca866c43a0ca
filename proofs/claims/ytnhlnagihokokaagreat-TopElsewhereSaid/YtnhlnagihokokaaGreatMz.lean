/- The row of TopElsewhere: for any ice, grain, stone, brooms, ticks and other numbers the statement returns true, never panics, and leaves its arguments as they read before. No condition. -/
import Derived.Test.YtnhlnagihokokaaGreatM10
import Derived.Test.YtnhlnagihokokaaGreatM11
import Derived.Test.YtnhlnagihokokaaGreatRows
namespace Go.Proofs.YtnhlnagihokokaaGreat
open Go.ChangeShapes Go.WideShapes Go.ChangeAt Go.RowKit

set_option maxRecDepth 100000 in
theorem topElsewhere_lifted (os : Os) (started : os.Started) (H : Type) (enc : TypeId × Value → H) :
    ReturnsInHanded {} Tryz.checked os 3 .any (Rows.topElsewhereSpec.pre6 enc Tryz.prog Tryz.f3 Rows.topElsewhereRow.domain false) (Rows.topElsewhereSpec.post enc Tryz.prog Tryz.f3 false true false false) := by
  refine returnsInHanded_of_change (C := Tryz.checked) own_knob started (by kernel_rfl) Tryz.func3
    (ChangeSpec.witness6 (enc := enc) (C := Tryz.checked) false ⟨#[], #[.agg #[.int .i64 0, .int .i64 0, .int .i64 0, .int .i64 0, .int .i64 0, .slice none 0 0, .slice none 0 0], .agg #[.int .i64 0, .int .i64 0, .int .i64 0, .int .i64 0, .int .i64 0], .agg #[.int .i64 0, .int .i64 0, .int .i64 0, .int .i64 0, .int .i64 0], .slice none 0 0, .int .u8 0, .slice none 0 0], []⟩ 8 (by kernel_rfl) (by kernel_rfl) (by kernel_rfl) (by kernel_rfl)) ?_
  intro W base args ds gs before hval0 hW hcnd _
  have hval : ∀ (j : Nat) t v, Tryz.f3.params[j]? = some t → args[j]? = some v → Value.okWide Tryz.prog W .any base t v := hval0
  refine law_post telse_ok laid_out (.cons iceSh (.cons graSh (.cons movSh (.cons (.sl broSh) (.cons (.int .u8) (.cons (.sl (.int .u16)) .nil)))))) (by kernel_rfl) rfl rfl Tryz.underlying4 (fun ys h => by obtain ⟨_, _, _, _, _, h6, _⟩ := h; exact congrArg (fun b => bif b then some (b1 true) else none) (telse_wf h6.2)) (fun ds hl => ?_) hval hW
  match ds, hl with
  | [d0, d1, d2, d3, d4, d5], _ => exact ⟨rfl, rfl, rfl⟩

theorem topElsewhere_holds : Rows.TopElsewhereSaid :=
  OpenClaim.holds_of_wide 3 Tryz.f3 rfl rfl rfl rfl rfl rfl rfl ⟨rfl, rfl, rfl, rfl, rfl⟩ rfl rfl rfl rfl rfl (by kernel_rfl) Tryz.func3 (by kernel_rfl)
    (of_decide_eq_true (by kernel_rfl)) (by unfold Func.isWrapper; first | (rw [if_pos (by decide +kernel)]; kernel_rfl) | (rw [if_neg (by decide +kernel)]; exact ⟨rfl, rfl⟩))
    (fun os started H enc _ => topElsewhere_lifted os started H enc)
#print axioms topElsewhere_holds
end Go.Proofs.YtnhlnagihokokaaGreat
