/- The row of SkillMirrors: of mirrored stones and a mirrored call, with the misses turned round, the worth is the same, on ice that is the same everywhere; and it lies from the least to the greatest points of a throw. No condition. -/
import Derived.Test.YtenolfpkkgcgcaaGreatM13
import Derived.Test.YtenolfpkkgcgcaaGreatM11
import Derived.Test.YtenolfpkkgcgcaaGreatRows
namespace Go.Proofs.YtenolfpkkgcgcaaGreat
open Go.ChangeShapes Go.WideShapes Go.ChangeAt Go.RowKit
set_option maxRecDepth 100000 in
theorem kK (os : Os) (started : os.Started) (H : Type) (enc : TypeId × Value → H) :
    ReturnsInHanded {} Tryz.checked os 5 .any (Rows.skillMirrorsSpec.pre6 enc Tryz.prog Tryz.f5 Rows.skillMirrorsRow.domain false) (Rows.skillMirrorsSpec.post enc Tryz.prog Tryz.f5 false true false false) := by
  refine returnsInHanded_of_change (C := Tryz.checked) IZ started (by kernel_rfl) Tryz.func5
    (ChangeSpec.witness6 (enc := enc) (C := Tryz.checked) false ⟨#[], #[.agg #[.int .i64 0, .int .i64 0, .int .i64 0, .int .i64 0, .int .i64 0, .slice none 0 0, .slice none 0 0, .int .i64 0, .int .i64 0, .int .i64 0, .int .i64 0, .int .i64 0, .int .i64 0, .slice none 0 0], .int .u16 0, .agg #[.int .i64 0, .int .i64 0, .int .i64 0, .int .i64 0, .int .i64 0, .int .i64 0, .int .i64 0, .slice none 0 0, .int .i64 0, .int .i64 0], .slice none 0 0, .int .i64 0, .int .i64 0], []⟩ 8 (by kernel_rfl) (by kernel_rfl) (by kernel_rfl) (by kernel_rfl)) ?_
  intro W base args ds gs before hval0 hW hcnd _
  have hval : ∀ (j : Nat) t v, Tryz.f5.params[j]? = some t → args[j]? = some v → Value.okWide Tryz.prog W .any base t v := hval0
  refine I2 N5 I0 (.cons (.recd (.cons SN (.cons SO (.cons (.int .i64) (.cons (.sl SQ) .nil))))) (.cons (.int .u16) (.cons (.recd (.cons (.int .i64) (.cons (.int .i64) (.cons PE (.cons (.sl SP) (.cons Ea .nil)))))) (.cons (.sl (.int .i64)) (.cons (.int .i64) (.cons (.int .i64) .nil)))))) (by kernel_rfl) rfl rfl Tryz.underlying4 (fun ys _ => rfl) (fun ds hl => ?_) hval hW
  match ds, hl with
  | [d0, d1, d2, d3, d4, d5], _ => exact ⟨rfl, rfl, rfl⟩
theorem skillMirrors_holds : Rows.SkillMirrorsSaid :=
  OpenClaim.holds_of_wide 5 Tryz.f5 rfl rfl rfl rfl rfl rfl rfl ⟨rfl, rfl, rfl, rfl, rfl⟩ rfl rfl rfl rfl rfl (by kernel_rfl) Tryz.func5 (by kernel_rfl)
    (of_decide_eq_true (by kernel_rfl)) (by unfold Func.isWrapper; first | (rw [if_pos (by decide +kernel)]; kernel_rfl) | (rw [if_neg (by decide +kernel)]; exact ⟨rfl, rfl⟩))
    (fun os started H enc _ => kK os started H enc)
#print axioms skillMirrors_holds
end Go.Proofs.YtenolfpkkgcgcaaGreat
