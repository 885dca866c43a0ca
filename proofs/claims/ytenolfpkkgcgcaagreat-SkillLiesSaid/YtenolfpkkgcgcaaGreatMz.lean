/- The row of SkillLies: the stones that a throw does not hit lie where they lay, the thrown one is the last, the points of both teams are each others, turned round. No condition. -/
import Derived.Test.YtenolfpkkgcgcaaGreatM14
import Derived.Test.YtenolfpkkgcgcaaGreatM12
import Derived.Test.YtenolfpkkgcgcaaGreatRows
namespace Go.Proofs.YtenolfpkkgcgcaaGreat
open Go.ChangeShapes Go.WideShapes Go.ChangeAt Go.RowKit
set_option maxRecDepth 100000 in
theorem skillLies_lifted (os : Os) (started : os.Started) (H : Type) (enc : TypeId × Value → H) :
    ReturnsInHanded {} Tryz.checked os 4 .any (Rows.skillLiesSpec.pre6 enc Tryz.prog Tryz.f4 Rows.skillLiesRow.domain false) (Rows.skillLiesSpec.post enc Tryz.prog Tryz.f4 false true false false) := by
  refine returnsInHanded_of_change (C := Tryz.checked) own_knob started (by kernel_rfl) Tryz.func4
    (ChangeSpec.witness6 (enc := enc) (C := Tryz.checked) false ⟨#[], #[.agg #[.int .i64 0, .int .i64 0, .int .i64 0, .int .i64 0, .int .i64 0, .slice none 0 0, .slice none 0 0, .int .i64 0, .int .i64 0, .int .i64 0, .int .i64 0, .int .i64 0, .int .i64 0, .slice none 0 0], .agg #[.int .i64 0, .int .i64 0, .int .i64 0, .int .i64 0, .int .i64 0, .int .i64 0, .int .i64 0, .slice none 0 0, .int .i64 0, .int .i64 0], .int .i64 0], []⟩ 8 (by kernel_rfl) (by kernel_rfl) (by kernel_rfl) (by kernel_rfl)) ?_
  intro W base args ds gs before hval0 hW hcnd _
  have hval : ∀ (j : Nat) t v, Tryz.f4.params[j]? = some t → args[j]? = some v → Value.okWide Tryz.prog W .any base t v := hval0
  refine law_post klie_ok laid_out (.cons (.recd (.cons iceSh (.cons graSh (.cons (.int .i64) (.cons (.sl bdySh) .nil))))) (.cons (.recd (.cons (.int .i64) (.cons (.int .i64) (.cons movSh (.cons (.sl broSh) (.cons spoSh .nil)))))) (.cons (.int .i64) .nil))) (by kernel_rfl) rfl rfl Tryz.underlying4 (fun ys _ => rfl) (fun ds hl => ?_) hval hW
  match ds, hl with
  | [d0, d1, d2], _ => exact ⟨rfl, rfl, rfl⟩
theorem skillLies_holds : Rows.SkillLiesSaid :=
  OpenClaim.holds_of_wide 4 Tryz.f4 rfl rfl rfl rfl rfl rfl rfl ⟨rfl, rfl, rfl, rfl, rfl⟩ rfl rfl rfl rfl rfl (by kernel_rfl) Tryz.func4 (by kernel_rfl)
    (of_decide_eq_true (by kernel_rfl)) (by unfold Func.isWrapper; first | (rw [if_pos (by decide +kernel)]; kernel_rfl) | (rw [if_neg (by decide +kernel)]; exact ⟨rfl, rfl⟩))
    (fun os started H enc _ => skillLies_lifted os started H enc)
#print axioms skillLies_holds
end Go.Proofs.YtenolfpkkgcgcaaGreat
