/- The row of TopTold: behind any shot a tool that keeps to its error calls no stone nearer that is not, and a sure score is that of the exact distances. No condition. -/
import Derived.Test.YtenolfpkkgcgcaaGreatM13
import Derived.Test.YtenolfpkkgcgcaaGreatM11
import Derived.Test.YtenolfpkkgcgcaaGreatRows
namespace Go.Proofs.YtenolfpkkgcgcaaGreat
open Go.ChangeShapes Go.WideShapes Go.ChangeAt Go.RowKit
set_option maxRecDepth 100000 in
theorem topTold_lifted (os : Os) (started : os.Started) (H : Type) (enc : TypeId × Value → H) :
    ReturnsInHanded {} Tryz.checked os 3 .any (Rows.topToldSpec.pre6 enc Tryz.prog Tryz.f3 Rows.topToldRow.domain false) (Rows.topToldSpec.post enc Tryz.prog Tryz.f3 false true false false) := by
  refine returnsInHanded_of_change (C := Tryz.checked) own_knob started (by kernel_rfl) Tryz.func3
    (ChangeSpec.witness6 (enc := enc) (C := Tryz.checked) false ⟨#[], #[.agg #[.int .i64 0, .int .i64 0, .int .i64 0, .int .i64 0, .int .i64 0, .slice none 0 0, .slice none 0 0, .int .i64 0, .int .i64 0, .int .i64 0, .int .i64 0, .int .i64 0, .slice none 0 0, .int .i64 0, .int .i64 0], .slice none 0 0, .int .u8 0, .agg #[.int .i64 0, .int .i64 0], .slice none 0 0], []⟩ 8 (by kernel_rfl) (by kernel_rfl) (by kernel_rfl) (by kernel_rfl)) ?_
  intro W base args ds gs before hval0 hW hcnd _
  have hval : ∀ (j : Nat) t v, Tryz.f3.params[j]? = some t → args[j]? = some v → Value.okWide Tryz.prog W .any base t v := hval0
  refine law_post ttl_ok laid_out (.cons delSh (.cons (.sl bdySh) (.cons (.int .u8) (.cons nmSh (.cons (.sl (.int .i16)) .nil))))) (by kernel_rfl) rfl rfl Tryz.underlying4 (fun ys _ => rfl) (fun ds hl => ?_) hval hW
  match ds, hl with
  | [d0, d1, d2, d3, d4], _ => exact ⟨rfl, rfl, rfl⟩
theorem topTold_holds : Rows.TopToldSaid :=
  OpenClaim.holds_of_wide 3 Tryz.f3 rfl rfl rfl rfl rfl rfl rfl ⟨rfl, rfl, rfl, rfl, rfl⟩ rfl rfl rfl rfl rfl (by kernel_rfl) Tryz.func3 (by kernel_rfl)
    (of_decide_eq_true (by kernel_rfl)) (by unfold Func.isWrapper; first | (rw [if_pos (by decide +kernel)]; kernel_rfl) | (rw [if_neg (by decide +kernel)]; exact ⟨rfl, rfl⟩))
    (fun os started H enc _ => topTold_lifted os started H enc)
#print axioms topTold_holds
end Go.Proofs.YtenolfpkkgcgcaaGreat
