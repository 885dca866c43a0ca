/- The row of ContactMirrors: for any grain, pebble, scene, elasticity and number of ticks the statement returns true, never panics, and leaves its arguments as they read before. No condition. -/
import Derived.Test.YtpigibmlkgjdkaaGreatM10
import Derived.Test.YtpigibmlkgjdkaaGreatM11
import Derived.Test.YtpigibmlkgjdkaaGreatRows
namespace Go.Proofs.YtpigibmlkgjdkaaGreat
open Go.ChangeShapes Go.WideShapes Go.ChangeAt Go.RowKit
set_option maxRecDepth 100000 in
theorem contactMirrors_lifted (os : Os) (started : os.Started) (H : Type) (enc : TypeId × Value → H) :
    ReturnsInHanded {} Tryz.checked os 5 .any (Rows.contactMirrorsSpec.pre6 enc Tryz.prog Tryz.f5 Rows.contactMirrorsRow.domain false) (Rows.contactMirrorsSpec.post enc Tryz.prog Tryz.f5 false true false false) := by
  refine returnsInHanded_of_change (C := Tryz.checked) own_knob started (by kernel_rfl) Tryz.func5
    (ChangeSpec.witness6 (enc := enc) (C := Tryz.checked) false ⟨#[], #[.agg #[.int .i64 0, .int .i64 0, .int .i64 0, .int .i64 0, .int .i64 0], .int .u16 0, .slice none 0 0, .int .i64 0, .int .u8 0], []⟩ 8 (by kernel_rfl) (by kernel_rfl) (by kernel_rfl) (by kernel_rfl)) ?_
  intro W base args ds gs before hval0 hW hcnd _
  have hval : ∀ (j : Nat) t v, Tryz.f5.params[j]? = some t → args[j]? = some v → Value.okWide Tryz.prog W .any base t v := hval0
  refine law_post cmir_ok laid_out (.cons graSh (.cons (.int .u16) (.cons (.sl bdySh) (.cons (.int .i64) (.cons (.int .u8) .nil))))) (by kernel_rfl) rfl rfl Tryz.underlying4 (fun ys h => rfl) (fun ds hl => ?_) hval hW
  match ds, hl with
  | [d0, d1, d2, d3, d4], _ => exact ⟨rfl, rfl, rfl⟩
theorem contactMirrors_holds : Rows.ContactMirrorsSaid :=
  OpenClaim.holds_of_wide 5 Tryz.f5 rfl rfl rfl rfl rfl rfl rfl ⟨rfl, rfl, rfl, rfl, rfl⟩ rfl rfl rfl rfl rfl (by kernel_rfl) Tryz.func5 (by kernel_rfl)
    (of_decide_eq_true (by kernel_rfl)) (by unfold Func.isWrapper; first | (rw [if_pos (by decide +kernel)]; kernel_rfl) | (rw [if_neg (by decide +kernel)]; exact ⟨rfl, rfl⟩))
    (fun os started H enc _ => contactMirrors_lifted os started H enc)
#print axioms contactMirrors_holds
end Go.Proofs.YtpigibmlkgjdkaaGreat
