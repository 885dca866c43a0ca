/- Parts of the proof, in build order. -/
import Derived.Test.YtbcjhjidhhecaaaGreatM8
import Derived.Test.YtbcjhjidhhecaaaGreatM9
/- IceChecks: its text, and that it answers true. -/
namespace Go.Proofs.YtbcjhjidhhecaaaGreat
open Go.RowKit

--AT fsIk spL twY
--FS fsIk | fsIb | rat=besom/besomref03.At;rslow=besom/besomref03.Slow;rbend=besom/besomref03.Bend;rice=besom/besomref03.Ice;rgra=besom/besomref03.Grain
noncomputable def fsIk : FuncId → Option Fsp := fun g =>
  if g = 12 then some ratS else
  if g = 14 then some rslowS else
  if g = 16 then some rbendS else
  if g = 43 then some riceS else
  if g = 44 then some rgraS else
  fsIb g
theorem fsIk_ok : FsOk fsIk :=
  fs_cons ratS_ok <|
  fs_cons rslowS_ok <|
  fs_cons rbendS_ok <|
  fs_cons riceS_ok <|
  fs_cons rgraS_ok <|
  fsIb_ok
--END
--TEXT ichecks | twY fsIk spL | 8 | besom/besomlaw03.IceChecks | $ICB $GB (x y : Int) | $ICE, $GR, $S{x y}
--KEY 6c558a672f
set_option maxRecDepth 100000 in
theorem ichecks_text (N n0 : Nat) (α : Type) (cx cy sd w h : Int) (pb po : List Int) (fl ke sw be we : Int) (x y : Int) (k : AOut → Option α) : evFn real tab ((twY fsIk spL).env real tab N (n0 + 8)) N Tryz.f4 α [.agg [.int .i64 cx, .int .i64 cy, .int .i64 sd, .int .i64 w, .int .i64 h, .ro (.int .i64) pb, .ro (.int .i64) po], .agg [.int .i64 fl, .int .i64 ke, .int .i64 sw, .int .i64 be, .int .i64 we], .agg [.int .i64 x, .int .i64 y]] k =
  bif decide ((↑pb.length : Int) > 1000) then k (AOut.ret (AVal.bool true))
  else
    bif decide ((↑po.length : Int) > 1000) then k (AOut.ret (AVal.bool true))
    else
      bif iceB cx cy sd w h pb po then
        bif er2 (iceB cx cy sd w h pb po) == 0 then
          bif graB fl ke sw be we then
            bif er2 (graB fl ke sw be we) == 0 then
              bif atV cx cy sd w h pb po x y == atV cx cy sd w h pb po x y then
                bif atE cx cy sd w h pb po x y == atE cx cy sd w h pb po x y then
                  bif slwV cx cy sd w h pb po fl ke sw be we x y == slwV cx cy sd w h pb po fl ke sw be we x y then
                    bif slwE cx cy sd w h pb po fl ke sw be we x y == slwE cx cy sd w h pb po fl ke sw be we x y then
                      bif bdvV cx cy sd w h pb po fl ke sw be we x y == bdvV cx cy sd w h pb po fl ke sw be we x y then
                        bif slwE cx cy sd w h pb po fl ke sw be we x y == slwE cx cy sd w h pb po fl ke sw be we x y then
                          k (AOut.ret (AVal.bool true))
                        else k (AOut.ret (AVal.bool false))
                      else k (AOut.ret (AVal.bool false))
                    else k (AOut.ret (AVal.bool false))
                  else k (AOut.ret (AVal.bool false))
                else k (AOut.ret (AVal.bool false))
              else k (AOut.ret (AVal.bool false))
            else k (AOut.ret (AVal.bool false))
          else
            bif er2 (graB fl ke sw be we) == 2 then
              bif atV cx cy sd w h pb po x y == atV cx cy sd w h pb po x y then
                bif atE cx cy sd w h pb po x y == atE cx cy sd w h pb po x y then
                  bif slwV cx cy sd w h pb po fl ke sw be we x y == slwV cx cy sd w h pb po fl ke sw be we x y then
                    bif slwE cx cy sd w h pb po fl ke sw be we x y == slwE cx cy sd w h pb po fl ke sw be we x y then
                      bif bdvV cx cy sd w h pb po fl ke sw be we x y == bdvV cx cy sd w h pb po fl ke sw be we x y then
                        bif slwE cx cy sd w h pb po fl ke sw be we x y == slwE cx cy sd w h pb po fl ke sw be we x y then
                          k (AOut.ret (AVal.bool true))
                        else k (AOut.ret (AVal.bool false))
                      else k (AOut.ret (AVal.bool false))
                    else k (AOut.ret (AVal.bool false))
                  else k (AOut.ret (AVal.bool false))
                else k (AOut.ret (AVal.bool false))
              else k (AOut.ret (AVal.bool false))
            else k (AOut.ret (AVal.bool false))
        else k (AOut.ret (AVal.bool false))
      else
        bif er2 (iceB cx cy sd w h pb po) == 2 then
          bif graB fl ke sw be we then
            bif er2 (graB fl ke sw be we) == 0 then
              bif atV cx cy sd w h pb po x y == atV cx cy sd w h pb po x y then
                bif atE cx cy sd w h pb po x y == atE cx cy sd w h pb po x y then
                  bif slwV cx cy sd w h pb po fl ke sw be we x y == slwV cx cy sd w h pb po fl ke sw be we x y then
                    bif slwE cx cy sd w h pb po fl ke sw be we x y == slwE cx cy sd w h pb po fl ke sw be we x y then
                      bif bdvV cx cy sd w h pb po fl ke sw be we x y == bdvV cx cy sd w h pb po fl ke sw be we x y then
                        bif slwE cx cy sd w h pb po fl ke sw be we x y == slwE cx cy sd w h pb po fl ke sw be we x y then
                          k (AOut.ret (AVal.bool true))
                        else k (AOut.ret (AVal.bool false))
                      else k (AOut.ret (AVal.bool false))
                    else k (AOut.ret (AVal.bool false))
                  else k (AOut.ret (AVal.bool false))
                else k (AOut.ret (AVal.bool false))
              else k (AOut.ret (AVal.bool false))
            else k (AOut.ret (AVal.bool false))
          else
            bif er2 (graB fl ke sw be we) == 2 then
              bif atV cx cy sd w h pb po x y == atV cx cy sd w h pb po x y then
                bif atE cx cy sd w h pb po x y == atE cx cy sd w h pb po x y then
                  bif slwV cx cy sd w h pb po fl ke sw be we x y == slwV cx cy sd w h pb po fl ke sw be we x y then
                    bif slwE cx cy sd w h pb po fl ke sw be we x y == slwE cx cy sd w h pb po fl ke sw be we x y then
                      bif bdvV cx cy sd w h pb po fl ke sw be we x y == bdvV cx cy sd w h pb po fl ke sw be we x y then
                        bif slwE cx cy sd w h pb po fl ke sw be we x y == slwE cx cy sd w h pb po fl ke sw be we x y then
                          k (AOut.ret (AVal.bool true))
                        else k (AOut.ret (AVal.bool false))
                      else k (AOut.ret (AVal.bool false))
                    else k (AOut.ret (AVal.bool false))
                  else k (AOut.ret (AVal.bool false))
                else k (AOut.ret (AVal.bool false))
              else k (AOut.ret (AVal.bool false))
            else k (AOut.ret (AVal.bool false))
        else k (AOut.ret (AVal.bool false)) := by kernel_rfl
--END
--FIN ichecks | besom/besomlaw03.IceChecks | $ICB $GB (x y : Int) | $ICE, $GR, $S{x y} | b1 true
theorem ichecks_fin (cx cy sd w h : Int) (pb po : List Int) (fl ke sw be we : Int) (x y : Int) (hs : ∀ qSm ∈ ([.agg [.int .i64 cx, .int .i64 cy, .int .i64 sd, .int .i64 w, .int .i64 h, .ro (.int .i64) pb, .ro (.int .i64) po], .agg [.int .i64 fl, .int .i64 ke, .int .i64 sw, .int .i64 be, .int .i64 we], .agg [.int .i64 x, .int .i64 y]] : List AVal), Sm qSm) : ∃ N n, ∀ α (k : AOut → Option α), evFn real tab ((twY fsIk spL).env real tab N n) N Tryz.f4 α [.agg [.int .i64 cx, .int .i64 cy, .int .i64 sd, .int .i64 w, .int .i64 h, .ro (.int .i64) pb, .ro (.int .i64) po], .agg [.int .i64 fl, .int .i64 ke, .int .i64 sw, .int .i64 be, .int .i64 we], .agg [.int .i64 x, .int .i64 y]] k = k (b1 true) := by
  refine ⟨8, 8, fun α k => (ichecks_text 8 0 α cx cy sd w h pb po fl ke sw be we x y k).trans ?_⟩
  cases decide ((pb.length : Int) > 1000) <;> cases decide ((po.length : Int) > 1000) <;> cases iceB cx cy sd w h pb po <;> cases graB fl ke sw be we <;> simp [er2, b1]
--CON ichecks
noncomputable def ichecksS : Fsp := fun _ args k => match args with
  | [.agg [.int .i64 cx, .int .i64 cy, .int .i64 sd, .int .i64 w, .int .i64 h, .ro (.int .i64) pb, .ro (.int .i64) po], .agg [.int .i64 fl, .int .i64 ke, .int .i64 sw, .int .i64 be, .int .i64 we], .agg [.int .i64 x, .int .i64 y]] => k (b1 true)
  | _ => none
theorem ichecksS_ok : FspOk Tryz.prog 4 ichecksS := tower_Y fsIk_ok spL_ok ⟨Tryz.func4, fun _ _ => by kernel_rfl⟩ (by intro α args k; unfold ichecksS; split <;> rfl) fun args out hSm hEq => by
  unfold ichecksS at hEq
  split at hEq
  · rename_i cx cy sd w h pb po fl ke sw be we x y
    obtain ⟨N, n, e⟩ := ichecks_fin cx cy sd w h pb po fl ke sw be we x y hSm
    exact ⟨N, n, (e AOut some).trans hEq⟩
  · cases hEq
--END
def ichecksF : List AVal → Option AOut
  | [.agg [.int .i64 cx, .int .i64 cy, .int .i64 sd, .int .i64 w, .int .i64 h, .ro (.int .i64) pb, .ro (.int .i64) po], .agg [.int .i64 fl, .int .i64 ke, .int .i64 sw, .int .i64 be, .int .i64 we], .agg [.int .i64 x, .int .i64 y]] => some (b1 true)
  | _ => none
theorem ichecksF_ok : FspOk Tryz.prog 4 (toFsp ichecksF) := tower_Y fsIk_ok spL_ok ⟨Tryz.func4, fun _ _ => by kernel_rfl⟩ (toFsp_nat _) fun args out hSm hq => by
  replace hq := toFsp_some hq
  unfold ichecksF at hq
  split at hq
  · rename_i cx cy sd w h pb po fl ke sw be we x y
    cases hq
    obtain ⟨N, n, e⟩ := ichecks_fin cx cy sd w h pb po fl ke sw be we x y hSm
    exact ⟨N, n, e AOut some⟩
  · cases hq
end Go.Proofs.YtbcjhjidhhecaaaGreat
