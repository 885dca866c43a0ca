/- The row of SkipBlanks: what a blank gains goes together with the hopes of the stones that make it: with no stone in the house, and with one of the team that has the hammer on the tee; a gain that is sure is one for all chances between the bounds. No condition. -/
import Derived.Test.YtbkpklfjoifdbaaGreatM10
import Derived.Test.YtbkpklfjoifdbaaGreatM9
import Derived.Test.YtbkpklfjoifdbaaGreatRows
namespace Go.Proofs.YtbkpklfjoifdbaaGreat
open Go.ChangeShapes Go.WideShapes Go.ChangeAt Go.RowKit
set_option maxRecDepth 100000 in
theorem skipBlanks_lifted (os : Os) (started : os.Started) (H : Type) (enc : TypeId × Value → H) :
    ReturnsInHanded {} Tryz.checked os 5 .any (Rows.skipBlanksSpec.pre6 enc Tryz.prog Tryz.f5 Rows.skipBlanksRow.domain false) (Rows.skipBlanksSpec.post enc Tryz.prog Tryz.f5 false true false false) := by
  refine returnsInHanded_of_change (C := Tryz.checked) own_knob started (by kernel_rfl) Tryz.func5
    (ChangeSpec.witness6 (enc := enc) (C := Tryz.checked) false ⟨#[], #[.agg #[.int .i64 0, .slice none 0 0, .slice none 0 0], .agg #[.int .i64 0, .int .i64 0, .int .i64 0]], []⟩ 8 (by kernel_rfl) (by kernel_rfl) (by kernel_rfl) (by kernel_rfl)) ?_
  intro W base args ds gs before hval0 hW hcnd _
  have hval : ∀ (j : Nat) t v, Tryz.f5.params[j]? = some t → args[j]? = some v → Value.okWide Tryz.prog W .any base t v := hval0
  refine law_post kbl_ok laid_out (.cons rvSh (.cons GsSh .nil)) (by kernel_rfl) rfl rfl Tryz.underlying4 (fun ys _ => rfl) (fun ds hl => ?_) hval hW
  match ds, hl with
  | [d0, d1], _ => exact ⟨rfl, rfl, rfl⟩
theorem skipBlanks_holds : Rows.SkipBlanksSaid :=
  OpenClaim.holds_of_wide 5 Tryz.f5 rfl rfl rfl rfl rfl rfl rfl ⟨rfl, rfl, rfl, rfl, rfl⟩ rfl rfl rfl rfl rfl (by kernel_rfl) Tryz.func5 (by kernel_rfl)
    (of_decide_eq_true (by kernel_rfl)) (by unfold Func.isWrapper; first | (rw [if_pos (by decide +kernel)]; kernel_rfl) | (rw [if_neg (by decide +kernel)]; exact ⟨rfl, rfl⟩))
    (fun os started H enc _ => skipBlanks_lifted os started H enc)
#print axioms skipBlanks_holds
end Go.Proofs.YtbkpklfjoifdbaaGreat
