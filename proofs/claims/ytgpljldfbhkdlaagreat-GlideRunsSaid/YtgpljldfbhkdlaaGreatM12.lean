/- Parts of the proof, in build order. -/
import Derived.Test.YtgpljldfbhkdlaaGreatM11
import Derived.Test.YtgpljldfbhkdlaaGreatM10
/- Glide: Strength, right, Tick. -/
namespace Go.Proofs.YtgpljldfbhkdlaaGreat
open Go.RowKit

def tckB (t : Int) : Bool := decide (0 ≤ t) && decide (t ≤ 6000)
/-- A stone after a tick, or its error. -/
noncomputable def tsA (c : Bool) (sl bd ax ay vx vy sp n : Int) : Int := selI c (tkStep sl bd ax ay vx vy sp n (fun a _ _ _ _ => a) 0)
noncomputable def tsB (c : Bool) (sl bd ax ay vx vy sp n : Int) : Int := selI c (tkStep sl bd ax ay vx vy sp n (fun _ a _ _ _ => a) 0)
noncomputable def tsC (c : Bool) (sl bd ax ay vx vy sp n : Int) : Int := selI c (tkStep sl bd ax ay vx vy sp n (fun _ _ a _ _ => a) 0)
noncomputable def tsD (c : Bool) (sl bd ax ay vx vy sp n : Int) : Int := selI c (tkStep sl bd ax ay vx vy sp n (fun _ _ _ a _ => a) 0)
noncomputable def tsE (c : Bool) (sl bd ax ay vx vy sp n : Int) : Int := selI c (tkStep sl bd ax ay vx vy sp n (fun _ _ _ _ a => a) 0)
noncomputable def tsZ (c : Bool) (sl bd ax ay vx vy sp n : Int) : Int := bif c then tkStep sl bd ax ay vx vy sp n (fun _ _ _ _ _ => 0) 4 else 2
noncomputable def tkO (c : Bool) (sl bd ax ay vx vy sp n : Int) : AOut := .ret (.tup [.agg [.int .i64 (tsA c sl bd ax ay vx vy sp n), .int .i64 (tsB c sl bd ax ay vx vy sp n), .int .i64 (tsC c sl bd ax ay vx vy sp n), .int .i64 (tsD c sl bd ax ay vx vy sp n), .int .i64 (tsE c sl bd ax ay vx vy sp n)], .int .i64 (tsZ c sl bd ax ay vx vy sp n)])
--AT fsG5 spG twY
--TEXT gStr | twY fsG5 spG | 8 | besom/glide.Strength | (l : List BrI) (t : Int) | .ro $BSH l, .int .i64 t
--KEY 1f1abde43d
set_option maxRecDepth 100000 in
theorem gStr_text (N n0 : Nat) (α : Type) (l : List BrI) (t : Int) (k : AOut → Option α) : evFn real tab ((twY fsG5 spG).env real tab N (n0 + 8)) N Tryz.f20 α [.ro (.recd (.cons (.int .i64) (.cons (.int .i64) (.cons (.int .i64) .nil)))) l, .int .i64 t] k =
  bif er2 (brsB l) != 0 then k (AOut.ret (AVal.tup [AVal.int IntKind.i64 0, AVal.int IntKind.i64 2]))
  else
    bif decide (0 ≤ t) then
      bif !decide (t ≤ 6000) then k (AOut.ret (AVal.tup [AVal.int IntKind.i64 0, AVal.int IntKind.i64 2]))
      else bif l.all brmB then k (AOut.ret (AVal.tup [AVal.int IntKind.i64 (strN l t), AVal.int IntKind.i64 0])) else none
    else k (AOut.ret (AVal.tup [AVal.int IntKind.i64 0, AVal.int IntKind.i64 2])) := by kernel_rfl
--END
--END
--TEXT grgt | twY fsG5 spG | 8 | (besom/glide.sheet).right | $ICB $GB $MB (l : List BrI) | $SH, $MO, .ro $BSH l
--KEY 7f3195b9ed
set_option maxRecDepth 100000 in
theorem grgt_text (N n0 : Nat) (α : Type) (cx cy sd w h : Int) (pb po : List Int) (fl ke sw be we : Int) (ax ay vx vy sp : Int) (l : List BrI) (k : AOut → Option α) : evFn real tab ((twY fsG5 spG).env real tab N (n0 + 8)) N Tryz.f37 α [.agg [.int .i64 cx, .int .i64 cy, .int .i64 sd, .int .i64 w, .int .i64 h, .ro (.int .i64) pb, .ro (.int .i64) po, .int .i64 fl, .int .i64 ke, .int .i64 sw, .int .i64 be, .int .i64 we], .agg [.int .i64 ax, .int .i64 ay, .int .i64 vx, .int .i64 vy, .int .i64 sp], .ro (.recd (.cons (.int .i64) (.cons (.int .i64) (.cons (.int .i64) .nil)))) l] k =
  bif er2 (iceB cx cy sd w h pb po) == 0 then
    bif er2 (graB fl ke sw be we) == 0 then
      bif er2 (movB ax ay vx vy sp) == 0 then k (AOut.ret (AVal.bool (er2 (brsB l) == 0)))
      else k (AOut.ret (AVal.bool false))
    else k (AOut.ret (AVal.bool false))
  else k (AOut.ret (AVal.bool false)) := by kernel_rfl
--END
--END
--TEXT grg0 | twY fsG5 spG | 8 | (besom/glide.sheet).right | $ICB $GB $MB | $SH, $MO, .nils
--KEY acffdc98b9
set_option maxRecDepth 100000 in
theorem grg0_text (N n0 : Nat) (α : Type) (cx cy sd w h : Int) (pb po : List Int) (fl ke sw be we : Int) (ax ay vx vy sp : Int) (k : AOut → Option α) : evFn real tab ((twY fsG5 spG).env real tab N (n0 + 8)) N Tryz.f37 α [.agg [.int .i64 cx, .int .i64 cy, .int .i64 sd, .int .i64 w, .int .i64 h, .ro (.int .i64) pb, .ro (.int .i64) po, .int .i64 fl, .int .i64 ke, .int .i64 sw, .int .i64 be, .int .i64 we], .agg [.int .i64 ax, .int .i64 ay, .int .i64 vx, .int .i64 vy, .int .i64 sp], .nils] k =
  bif er2 (iceB cx cy sd w h pb po) == 0 then
    bif er2 (graB fl ke sw be we) == 0 then
      bif er2 (movB ax ay vx vy sp) == 0 then k (AOut.ret (AVal.bool (0 == 0))) else k (AOut.ret (AVal.bool false))
    else k (AOut.ret (AVal.bool false))
  else k (AOut.ret (AVal.bool false)) := by kernel_rfl
--END
--END
--TEXT gTick | twY fsG5 spG | 8 | besom/glide.Tick | $ICB $GB $MB (n : Int) | $ICE, $GR, $MO, .int .i64 n
--KEY 3c5b0446f9
set_option maxRecDepth 100000 in
theorem gTick_text (N n0 : Nat) (α : Type) (cx cy sd w h : Int) (pb po : List Int) (fl ke sw be we : Int) (ax ay vx vy sp : Int) (n : Int) (k : AOut → Option α) : evFn real tab ((twY fsG5 spG).env real tab N (n0 + 8)) N Tryz.f18 α [.agg [.int .i64 cx, .int .i64 cy, .int .i64 sd, .int .i64 w, .int .i64 h, .ro (.int .i64) pb, .ro (.int .i64) po], .agg [.int .i64 fl, .int .i64 ke, .int .i64 sw, .int .i64 be, .int .i64 we], .agg [.int .i64 ax, .int .i64 ay, .int .i64 vx, .int .i64 vy, .int .i64 sp], .int .i64 n] k =
  bif er2 (iceB cx cy sd w h pb po) == 0 then
    bif er2 (graB fl ke sw be we) == 0 then
      bif er2 (movB ax ay vx vy sp) == 0 then
        bif decide (0 ≤ n) then
          bif !decide (n ≤ 1000) then
            k
              (AOut.ret
                (AVal.tup
                  [AVal.agg
                      [AVal.int IntKind.i64 0, AVal.int IntKind.i64 0, AVal.int IntKind.i64 0, AVal.int IntKind.i64 0,
                        AVal.int IntKind.i64 0],
                    AVal.int IntKind.i64 2]))
          else
            bif rgtB cx cy sd w h pb po fl ke sw be we ax ay vx vy sp n then
              bif tkR (slwV cx cy sd w h pb po fl ke sw be we ax ay) vx vy n then
                k
                  (AOut.ret
                    (AVal.tup
                      [AVal.agg
                          [AVal.int IntKind.i64 ax, AVal.int IntKind.i64 ay, AVal.int IntKind.i64 0,
                            AVal.int IntKind.i64 0, AVal.int IntKind.i64 0],
                        AVal.int IntKind.i64 0]))
              else
                bif
                    tkM (slwV cx cy sd w h pb po fl ke sw be we ax ay) (bdvV cx cy sd w h pb po fl ke sw be we ax ay) ax
                      ay vx vy sp n then
                  k
                    (AOut.ret
                      (AVal.tup
                        [AVal.agg
                            [AVal.int IntKind.i64
                                (ax +
                                  tkVX (slwV cx cy sd w h pb po fl ke sw be we ax ay)
                                    (bdvV cx cy sd w h pb po fl ke sw be we ax ay) vx vy sp n),
                              AVal.int IntKind.i64
                                (ay +
                                  tkVY (slwV cx cy sd w h pb po fl ke sw be we ax ay)
                                    (bdvV cx cy sd w h pb po fl ke sw be we ax ay) vx vy sp n),
                              AVal.int IntKind.i64
                                (tkVX (slwV cx cy sd w h pb po fl ke sw be we ax ay)
                                  (bdvV cx cy sd w h pb po fl ke sw be we ax ay) vx vy sp n),
                              AVal.int IntKind.i64
                                (tkVY (slwV cx cy sd w h pb po fl ke sw be we ax ay)
                                  (bdvV cx cy sd w h pb po fl ke sw be we ax ay) vx vy sp n),
                              AVal.int IntKind.i64 sp],
                          AVal.int IntKind.i64 0]))
                else
                  k
                    (AOut.ret
                      (AVal.tup
                        [AVal.agg
                            [AVal.int IntKind.i64 0, AVal.int IntKind.i64 0, AVal.int IntKind.i64 0,
                              AVal.int IntKind.i64 0, AVal.int IntKind.i64 0],
                          AVal.int IntKind.i64 4]))
            else none
        else
          k
            (AOut.ret
              (AVal.tup
                [AVal.agg
                    [AVal.int IntKind.i64 0, AVal.int IntKind.i64 0, AVal.int IntKind.i64 0, AVal.int IntKind.i64 0,
                      AVal.int IntKind.i64 0],
                  AVal.int IntKind.i64 2]))
      else
        k
          (AOut.ret
            (AVal.tup
              [AVal.agg
                  [AVal.int IntKind.i64 0, AVal.int IntKind.i64 0, AVal.int IntKind.i64 0, AVal.int IntKind.i64 0,
                    AVal.int IntKind.i64 0],
                AVal.int IntKind.i64 2]))
    else
      k
        (AOut.ret
          (AVal.tup
            [AVal.agg
                [AVal.int IntKind.i64 0, AVal.int IntKind.i64 0, AVal.int IntKind.i64 0, AVal.int IntKind.i64 0,
                  AVal.int IntKind.i64 0],
              AVal.int IntKind.i64 2]))
  else
    k
      (AOut.ret
        (AVal.tup
          [AVal.agg
              [AVal.int IntKind.i64 0, AVal.int IntKind.i64 0, AVal.int IntKind.i64 0, AVal.int IntKind.i64 0,
                AVal.int IntKind.i64 0],
            AVal.int IntKind.i64 2])) := by kernel_rfl
--END
--END
--FIN gStr | besom/glide.Strength | (l : List BrI) (t : Int) | .ro $BSH l, .int .i64 t | i2 (selI (brsB l && tckB t) (strN l t)) (er2 (brsB l && tckB t))
theorem gStr_fin (l : List BrI) (t : Int) (hs : ∀ qSm ∈ ([.ro (.recd (.cons (.int .i64) (.cons (.int .i64) (.cons (.int .i64) .nil)))) l, .int .i64 t] : List AVal), Sm qSm) : ∃ N n, ∀ α (k : AOut → Option α), evFn real tab ((twY fsG5 spG).env real tab N n) N Tryz.f20 α [.ro (.recd (.cons (.int .i64) (.cons (.int .i64) (.cons (.int .i64) .nil)))) l, .int .i64 t] k = k (i2 (selI (brsB l && tckB t) (strN l t)) (er2 (brsB l && tckB t))) := by
  refine ⟨8, 8, fun α k => (gStr_text 8 0 α l t k).trans ?_⟩
  have e : (er2 (brsB l) != 0) = !(brsB l) := by cases brsB l <;> rfl
  rw [e]
  unfold tckB
  cases hb : brsB l
  · rfl
  cases h1 : decide (0 ≤ t)
  · rfl
  cases h2 : decide (t ≤ 6000)
  · rfl
  unfold brsB at hb
  rw [Bool.and_eq_true] at hb
  rw [hb.2]; rfl
--CON gStr
noncomputable def gStrS : Fsp := fun _ args k => match args with
  | [.ro (.recd (.cons (.int .i64) (.cons (.int .i64) (.cons (.int .i64) .nil)))) l, .int .i64 t] => k (i2 (selI (brsB l && tckB t) (strN l t)) (er2 (brsB l && tckB t)))
  | _ => none
theorem gStrS_ok : FspOk Tryz.prog 20 gStrS := tower_Y fsG5_ok spG_ok ⟨Tryz.func20, fun _ _ => by kernel_rfl⟩ (by intro α args k; unfold gStrS; split <;> rfl) fun args out hSm hEq => by
  unfold gStrS at hEq
  split at hEq
  · rename_i l t
    obtain ⟨N, n, e⟩ := gStr_fin l t hSm
    exact ⟨N, n, (e AOut some).trans hEq⟩
  · cases hEq
--END
noncomputable def grgtS : Fsp := fun _ args k => match args with
  | [.agg [.int .i64 cx, .int .i64 cy, .int .i64 sd, .int .i64 w, .int .i64 h, .ro (.int .i64) pb, .ro (.int .i64) po, .int .i64 fl, .int .i64 ke, .int .i64 sw, .int .i64 be, .int .i64 we], .agg [.int .i64 ax, .int .i64 ay, .int .i64 vx, .int .i64 vy, .int .i64 sp], .ro (.recd (.cons (.int .i64) (.cons (.int .i64) (.cons (.int .i64) .nil)))) l] => k (b1 (iceB cx cy sd w h pb po && graB fl ke sw be we && movB ax ay vx vy sp && brsB l))
  | [.agg [.int .i64 cx, .int .i64 cy, .int .i64 sd, .int .i64 w, .int .i64 h, .ro (.int .i64) pb, .ro (.int .i64) po, .int .i64 fl, .int .i64 ke, .int .i64 sw, .int .i64 be, .int .i64 we], .agg [.int .i64 ax, .int .i64 ay, .int .i64 vx, .int .i64 vy, .int .i64 sp], .nils] => k (b1 (iceB cx cy sd w h pb po && graB fl ke sw be we && movB ax ay vx vy sp))
  | _ => none
theorem grgtS_ok : FspOk Tryz.prog 37 grgtS := tower_Y fsG5_ok spG_ok ⟨Tryz.func37, fun _ _ => by kernel_rfl⟩ (by intro α args k; unfold grgtS; split <;> rfl) fun args out hSm hEq => by
  unfold grgtS at hEq
  split at hEq
  · rename_i cx cy sd w h pb po fl ke sw be we ax ay vx vy sp l
    refine ⟨8, 8, (grgt_text 8 0 AOut cx cy sd w h pb po fl ke sw be we ax ay vx vy sp l some).trans (Eq.trans ?_ hEq)⟩
    rw [er2_0, er2_0, er2_0, er2_0]
    cases iceB cx cy sd w h pb po <;> cases graB fl ke sw be we <;> cases movB ax ay vx vy sp <;> rfl
  · rename_i cx cy sd w h pb po fl ke sw be we ax ay vx vy sp
    refine ⟨8, 8, (grg0_text 8 0 AOut cx cy sd w h pb po fl ke sw be we ax ay vx vy sp some).trans (Eq.trans ?_ hEq)⟩
    rw [er2_0, er2_0, er2_0]
    cases iceB cx cy sd w h pb po <;> cases graB fl ke sw be we <;> cases movB ax ay vx vy sp <;> rfl
  · cases hEq
--FIN gTick | besom/glide.Tick | $ICB $GB $MB (u : Int) | $ICE, $GR, $MO, .int .i64 u | tkO (rgtB $ICV $GV $MV u) (slwV $ICV $GV ax ay) (bdvV $ICV $GV ax ay) $MV u
theorem gTick_fin (cx cy sd w h : Int) (pb po : List Int) (fl ke sw be we : Int) (ax ay vx vy sp : Int) (u : Int) (hs : ∀ qSm ∈ ([.agg [.int .i64 cx, .int .i64 cy, .int .i64 sd, .int .i64 w, .int .i64 h, .ro (.int .i64) pb, .ro (.int .i64) po], .agg [.int .i64 fl, .int .i64 ke, .int .i64 sw, .int .i64 be, .int .i64 we], .agg [.int .i64 ax, .int .i64 ay, .int .i64 vx, .int .i64 vy, .int .i64 sp], .int .i64 u] : List AVal), Sm qSm) : ∃ N n, ∀ α (k : AOut → Option α), evFn real tab ((twY fsG5 spG).env real tab N n) N Tryz.f18 α [.agg [.int .i64 cx, .int .i64 cy, .int .i64 sd, .int .i64 w, .int .i64 h, .ro (.int .i64) pb, .ro (.int .i64) po], .agg [.int .i64 fl, .int .i64 ke, .int .i64 sw, .int .i64 be, .int .i64 we], .agg [.int .i64 ax, .int .i64 ay, .int .i64 vx, .int .i64 vy, .int .i64 sp], .int .i64 u] k = k (tkO (rgtB cx cy sd w h pb po fl ke sw be we ax ay vx vy sp u) (slwV cx cy sd w h pb po fl ke sw be we ax ay) (bdvV cx cy sd w h pb po fl ke sw be we ax ay) ax ay vx vy sp u) := by
  refine ⟨8, 8, fun α k => (gTick_text 8 0 α cx cy sd w h pb po fl ke sw be we ax ay vx vy sp u k).trans ?_⟩
  rw [er2_0, er2_0, er2_0]
  unfold tkO tsA tsB tsC tsD tsE tsZ tkStep rgtB grnB
  generalize tkM (slwV cx cy sd w h pb po fl ke sw be we ax ay) (bdvV cx cy sd w h pb po fl ke sw be we ax ay) ax ay vx vy sp u = qm
  generalize tkR (slwV cx cy sd w h pb po fl ke sw be we ax ay) vx vy u = qr
  cases iceB cx cy sd w h pb po
  · rfl
  cases graB fl ke sw be we
  · rfl
  cases movB ax ay vx vy sp
  · rfl
  cases decide (0 ≤ u)
  · rfl
  cases decide (u ≤ 1000)
  · rfl
  cases qr
  · cases qm <;> rfl
  · rfl
--CON gTick
noncomputable def gTickS : Fsp := fun _ args k => match args with
  | [.agg [.int .i64 cx, .int .i64 cy, .int .i64 sd, .int .i64 w, .int .i64 h, .ro (.int .i64) pb, .ro (.int .i64) po], .agg [.int .i64 fl, .int .i64 ke, .int .i64 sw, .int .i64 be, .int .i64 we], .agg [.int .i64 ax, .int .i64 ay, .int .i64 vx, .int .i64 vy, .int .i64 sp], .int .i64 u] => k (tkO (rgtB cx cy sd w h pb po fl ke sw be we ax ay vx vy sp u) (slwV cx cy sd w h pb po fl ke sw be we ax ay) (bdvV cx cy sd w h pb po fl ke sw be we ax ay) ax ay vx vy sp u)
  | _ => none
theorem gTickS_ok : FspOk Tryz.prog 18 gTickS := tower_Y fsG5_ok spG_ok ⟨Tryz.func18, fun _ _ => by kernel_rfl⟩ (by intro α args k; unfold gTickS; split <;> rfl) fun args out hSm hEq => by
  unfold gTickS at hEq
  split at hEq
  · rename_i cx cy sd w h pb po fl ke sw be we ax ay vx vy sp u
    obtain ⟨N, n, e⟩ := gTick_fin cx cy sd w h pb po fl ke sw be we ax ay vx vy sp u hSm
    exact ⟨N, n, (e AOut some).trans hEq⟩
  · cases hEq
--END
--FS fsG6 | fsG5 | grgt=(besom/glide.sheet).right;gStr;gTick
noncomputable def fsG6 : FuncId → Option Fsp := fun g =>
  if g = 37 then some grgtS else
  if g = 20 then some gStrS else
  if g = 18 then some gTickS else
  fsG5 g
theorem fsG6_ok : FsOk fsG6 :=
  fs_cons grgtS_ok <|
  fs_cons gStrS_ok <|
  fs_cons gTickS_ok <|
  fsG5_ok
--END
end Go.Proofs.YtgpljldfbhkdlaaGreat

/- The reference: stones, brooms, ticks (layer 4). -/
namespace Go.Proofs.YtgpljldfbhkdlaaGreat
open Go.RowKit

--AT fnR3 spL twY
def lefX (x y : Int) : Int := bif okB x && okB y then IntKind.i64.wrap (0 - y) else 0
def lefY (x y : Int) : Int := bif okB x && okB y then x else 0
--FIN rleft | besom/besomref01.Left | (x y : Int) | $S{x y} | .ret (.agg [.int .i64 (lefX x y), .int .i64 (lefY x y)])
theorem rleft_fin (x y : Int) (hs : ∀ qSm ∈ ([.agg [.int .i64 x, .int .i64 y]] : List AVal), Sm qSm) : ∃ N n, ∀ α (k : AOut → Option α), evFn real tab ((twY fnR3 spL).env real tab N n) N Tryz.f117 α [.agg [.int .i64 x, .int .i64 y]] k = k (.ret (.agg [.int .i64 (lefX x y), .int .i64 (lefY x y)])) := by
  refine ⟨8, 8, fun α k => (rleft_text 8 0 α x y k).trans ?_⟩
  unfold lefX lefY
  cases okB x
  · rfl
  cases okB y <;> rfl
--CON rleft
noncomputable def rleftS : Fsp := fun _ args k => match args with
  | [.agg [.int .i64 x, .int .i64 y]] => k (.ret (.agg [.int .i64 (lefX x y), .int .i64 (lefY x y)]))
  | _ => none
theorem rleftS_ok : FspOk Tryz.prog 117 rleftS := tower_Y fnR3_ok spL_ok ⟨Tryz.func117, fun _ _ => by kernel_rfl⟩ (by intro α args k; unfold rleftS; split <;> rfl) fun args out hSm hEq => by
  unfold rleftS at hEq
  split at hEq
  · rename_i x y
    obtain ⟨N, n, e⟩ := rleft_fin x y hSm
    exact ⟨N, n, (e AOut some).trans hEq⟩
  · cases hEq
--END
--FIN rmov | besom/besomref04.Moving | $MB | $MO | b1 (movB $MV)
theorem rmov_fin (ax ay vx vy sp : Int) (hs : ∀ qSm ∈ ([.agg [.int .i64 ax, .int .i64 ay, .int .i64 vx, .int .i64 vy, .int .i64 sp]] : List AVal), Sm qSm) : ∃ N n, ∀ α (k : AOut → Option α), evFn real tab ((twY fnR3 spL).env real tab N n) N Tryz.f62 α [.agg [.int .i64 ax, .int .i64 ay, .int .i64 vx, .int .i64 vy, .int .i64 sp]] k = k (b1 (movB ax ay vx vy sp)) := by
  refine ⟨8, 8, fun α k => (rmov_text 8 0 α ax ay vx vy sp k).trans ?_⟩
  unfold movB
  rw [ge_le, ge_le]
  cases plcB ax ay <;> cases decide (-65536000 ≤ vx) <;> cases decide (-65536000 ≤ vy) <;> cases decide (vx ≤ 65536000) <;> cases decide (vy ≤ 65536000) <;> cases decide (-1000 ≤ sp) <;> rfl
--CON rmov
noncomputable def rmovS : Fsp := fun _ args k => match args with
  | [.agg [.int .i64 ax, .int .i64 ay, .int .i64 vx, .int .i64 vy, .int .i64 sp]] => k (b1 (movB ax ay vx vy sp))
  | _ => none
theorem rmovS_ok : FspOk Tryz.prog 62 rmovS := tower_Y fnR3_ok spL_ok ⟨Tryz.func62, fun _ _ => by kernel_rfl⟩ (by intro α args k; unfold rmovS; split <;> rfl) fun args out hSm hEq => by
  unfold rmovS at hEq
  split at hEq
  · rename_i ax ay vx vy sp
    obtain ⟨N, n, e⟩ := rmov_fin ax ay vx vy sp hSm
    exact ⟨N, n, (e AOut some).trans hEq⟩
  · cases hEq
--END
--FS fnRa | fnR3 | rleft;rmov;rlen=besom/besomref01.Length;rtimes=besom/besomref01.Times;rslow=besom/besomref03.Slow;rbend=besom/besomref03.Bend
noncomputable def fnRa : FuncId → Option Fsp := fun g =>
  if g = 117 then some rleftS else
  if g = 62 then some rmovS else
  if g = 113 then some rlenS else
  if g = 116 then some rtimesS else
  if g = 17 then some rslowS else
  if g = 112 then some rbendS else
  fnR3 g
theorem fnRa_ok : FsOk fnRa :=
  fs_cons rleftS_ok <|
  fs_cons rmovS_ok <|
  fs_cons rlenS_ok <|
  fs_cons rtimesS_ok <|
  fs_cons rslowS_ok <|
  fs_cons rbendS_ok <|
  fnR3_ok
--END
/-! Plain numbers. -/
theorem ml_cut {a b : Int} (ha : -1048576 ≤ a ∧ a ≤ 1048576) (hb : -1048576 ≤ b ∧ b ≤ 1048576) : mulE a b 0 = 0 ∧ mulV a b 0 = cutP a b := by
  obtain ⟨_, p2, p3⟩ := pr_cut2 ha hb
  unfold mulE mulV mulB fxE fxV
  rw [ok_le ha (by omega), ok_le hb (by omega), p2, p3]
  exact ⟨rfl, rfl⟩
theorem sc_spin {c sp : Int} (hc : 0 ≤ c ∧ c ≤ 65536) (hs : -1000 ≤ sp ∧ sp ≤ 1000) : scV c sp 1000 0 = spnV c sp := by
  have hi := (spn_in hc hs).1
  have hg : scG c sp 1000 = ngB sp := by unfold scG; rw [ng_pos hc.1, ng_pos (x := 1000) (by omega)]; cases ngB sp <;> rfl
  have hN : scN c sp 1000 0 = c * ab sp / 1000 := by
    unfold scN
    rw [ab_pos hc.1, show ab 1000 = 1000 from rfl, rnd_cut]
  have hok : scB c sp 1000 0 = true := by
    unfold scB
    rw [ok_iff.2 (by omega), rate_iff.2 (by omega), rate_iff.2 (by omega)]; rfl
  have hf : fxB (c * ab sp / 1000) = true := decide_eq_true (by omega)
  unfold scV fxV
  rw [hok, hN, hg, hf]
  rfl
--AT fnRa spL twY
def rbrT {α : Type} (l : List BrI) (N : Nat) (k : AOut → Option α) : Option α :=
  afterL
    (iterL N
      (fun (x : Int × PUnit) =>
        bif decide (x.1 < (l.length : Int)) then
          if 0 ≤ x.1 ∧ x.1 < (l.length : Int) then
            if 0 ≤ x.1 ∧ x.1 < (l.length : Int) then
              bif decide (0 ≤ (l.getD x.1.toNat brD).1) then
                bif !decide ((l.getD x.1.toNat brD).1 ≤ (l.getD x.1.toNat brD).2.1) then finL (k (b1 false))
                else
                  if 0 ≤ x.1 ∧ x.1 < (l.length : Int) then
                    bif decide ((l.getD x.1.toNat brD).2.1 > 6000) then finL (k (b1 false))
                    else
                      if 0 ≤ x.1 ∧ x.1 < (l.length : Int) then
                        bif decide (0 ≤ (l.getD x.1.toNat brD).2.2.1) then
                          bif !decide ((l.getD x.1.toNat brD).2.2.1 ≤ 1000) then finL (k (b1 false))
                          else some (LRes.cont (IntKind.i64.wrap (x.1 + 1), PUnit.unit))
                        else finL (k (b1 false))
                      else none
                  else none
              else finL (k (b1 false))
            else none
          else none
        else some (LRes.brk 0 (x.1, PUnit.unit)))
      (0, PUnit.unit))
    fun (id : Nat) (_ : Int × PUnit) => if id = 0 then k (b1 (decide ((l.length : Int) ≤ 64))) else none
theorem rbrs_text (N n0 : Nat) (α : Type) (l : List BrI) (k : AOut → Option α) : evFn real tab ((twY fnRa spL).env real tab N (n0 + 8)) N Tryz.f55 α [.ro (.recd (.cons (.int .i64) (.cons (.int .i64) (.cons (.int .i64) .nil)))) l] k = rbrT l N k := by kernel_rfl
theorem rbrs_nil (N n0 : Nat) (α : Type) (k : AOut → Option α) : evFn real tab ((twY fnRa spL).env real tab (N + 1) (n0 + 8)) (N + 1) Tryz.f55 α [.nils] k = k (b1 true) := by kernel_rfl
theorem rbrT_fin {α : Type} (l : List BrI) (hl : l.length ≤ maxLen) (k : AOut → Option α) : rbrT l (l.length + 1) k = k (b1 (brsB l)) := by
  unfold rbrT brsB
  refine (any_loop (fun i : Nat => ((i : Int), PUnit.unit)) l.length (fun i => oddR (l.getD i brD)) (b := 0) (y := ((l.length : Int), PUnit.unit)) (k (b1 false)) (fun i hi => ?_) ?_).trans ?_
  · simp only [lt_len hi, cond_true]
    rw [if_pos (in_len hi), if_pos (in_len hi), if_pos (in_len hi), if_pos (in_len hi), wrap_next hi hl, Int.toNat_natCast, gt_le]
    unfold oddR brmB
    cases decide (0 ≤ (l.getD i brD).1)
    · rfl
    cases decide ((l.getD i brD).1 ≤ (l.getD i brD).2.1)
    · rfl
    cases decide ((l.getD i brD).2.1 ≤ 6000)
    · rfl
    cases decide (0 ≤ (l.getD i brD).2.2.1)
    · rfl
    cases decide ((l.getD i brD).2.2.1 ≤ 1000) <;> rfl
  · simp only [not_lt_len, cond_false]
  · rw [any_rangeX l brD oddR, any_oddR]
    cases l.all brmB <;> cases decide ((l.length : Int) ≤ 64) <;> rfl
noncomputable def rbrsS : Fsp := fun _ args k => match args with
  | [.ro (.recd (.cons (.int .i64) (.cons (.int .i64) (.cons (.int .i64) .nil)))) l] => k (b1 (brsB l))
  | [.nils] => k (b1 true)
  | _ => none
theorem rbrsS_ok : FspOk Tryz.prog 55 rbrsS := tower_Y fnRa_ok spL_ok ⟨Tryz.func55, fun _ _ => by kernel_rfl⟩ (by intro α args k; unfold rbrsS; split <;> rfl) fun args out hSm hEq => by
  unfold rbrsS at hEq
  split at hEq
  · rename_i l
    exact ⟨l.length + 1, 8, (rbrs_text (l.length + 1) 0 AOut l some).trans ((rbrT_fin l (hSm _ (by simp)).len some).trans hEq)⟩
  · exact ⟨1, 8, (rbrs_nil 0 0 AOut some).trans hEq⟩
  · cases hEq
def rsrT {α : Type} (l : List BrI) (t : Int) (N : Nat) (k : AOut → Option α) : Option α :=
  afterL
    (iterL N
      (fun (x : Int × Int × PUnit) =>
        bif decide (x.2.1 < (l.length : Int)) then
          if 0 ≤ x.2.1 ∧ x.2.1 < (l.length : Int) then
            bif decide ((l.getD x.2.1.toNat brD).1 ≤ t) then
              if 0 ≤ x.2.1 ∧ x.2.1 < (l.length : Int) then
                bif decide ((l.getD x.2.1.toNat brD).2.1 > t) then
                  if 0 ≤ x.2.1 ∧ x.2.1 < (l.length : Int) then
                    some (LRes.cont (if x.1 < (l.getD x.2.1.toNat brD).2.2.1 then (l.getD x.2.1.toNat brD).2.2.1 else x.1, IntKind.i64.wrap (x.2.1 + 1), PUnit.unit))
                  else none
                else some (LRes.cont (x.1, IntKind.i64.wrap (x.2.1 + 1), PUnit.unit))
              else none
            else some (LRes.cont (x.1, IntKind.i64.wrap (x.2.1 + 1), PUnit.unit))
          else none
        else some (LRes.brk 0 (x.1, x.2.1, PUnit.unit)))
      (0, 0, PUnit.unit))
    fun (id : Nat) (y : Int × Int × PUnit) => if id = 0 then k (i1 y.1) else none
theorem rstr_text (N n0 : Nat) (α : Type) (l : List BrI) (t : Int) (k : AOut → Option α) : evFn real tab ((twY fnRa spL).env real tab N (n0 + 8)) N Tryz.f57 α [.ro (.recd (.cons (.int .i64) (.cons (.int .i64) (.cons (.int .i64) .nil)))) l, .int .i64 t] k = rsrT l t N k := by kernel_rfl
theorem rstr_nil (N n0 : Nat) (α : Type) (t : Int) (k : AOut → Option α) : evFn real tab ((twY fnRa spL).env real tab (N + 1) (n0 + 8)) (N + 1) Tryz.f57 α [.nils, .int .i64 t] k = k (i1 0) := by kernel_rfl
theorem rsrT_fin {α : Type} (l : List BrI) (t : Int) (hl : l.length ≤ maxLen) (k : AOut → Option α) : rsrT l t (l.length + 1) k = k (i1 (strN l t)) := by
  unfold rsrT
  refine (count_loop (fun i : Nat => (strN (l.take i) t, (i : Int), PUnit.unit)) l.length (b := 0) (y := (strN (l.take l.length) t, (l.length : Int), PUnit.unit)) (fun i hi => ?_) ?_ (Nat.lt_succ_self _)).trans ?_
  · simp only [lt_len hi, cond_true]
    rw [if_pos (in_len hi), if_pos (in_len hi), if_pos (in_len hi), wrap_next hi hl, Int.toNat_natCast, str_next l t hi]
    have e : decide ((l.getD i brD).2.1 > t) = decide (t < (l.getD i brD).2.1) := rfl
    rw [e]
    unfold strF
    cases decide ((l.getD i brD).1 ≤ t)
    · rfl
    cases decide (t < (l.getD i brD).2.1) <;> rfl
  · simp only [not_lt_len, cond_false]
  · rw [List.take_length]; rfl
noncomputable def rstrS : Fsp := fun _ args k => match args with
  | [.ro (.recd (.cons (.int .i64) (.cons (.int .i64) (.cons (.int .i64) .nil)))) l, .int .i64 t] => k (i1 (strN l t))
  | [.nils, .int .i64 t] => k (i1 0)
  | _ => none
theorem rstrS_ok : FspOk Tryz.prog 57 rstrS := tower_Y fnRa_ok spL_ok ⟨Tryz.func57, fun _ _ => by kernel_rfl⟩ (by intro α args k; unfold rstrS; split <;> rfl) fun args out hSm hEq => by
  unfold rstrS at hEq
  split at hEq
  · rename_i l t
    exact ⟨l.length + 1, 8, (rstr_text (l.length + 1) 0 AOut l t some).trans ((rsrT_fin l t (hSm _ (by simp)).len some).trans hEq)⟩
  · rename_i t
    exact ⟨1, 8, (rstr_nil 0 0 AOut t some).trans hEq⟩
  · cases hEq
/-! A tick of the reference. -/
abbrev mvR (ax ay vx vy sp e : Int) : AOut := .ret (.tup [.agg [iN ax, iN ay, iN vx, iN vy, iN sp], iN e])
noncomputable def rnx3 {α : Type} (ax ay sp VX VY : Int) (k : AOut → Option α) : Option α :=
  bif !movB (IntKind.i64.wrap (ax + VX)) (IntKind.i64.wrap (ay + VY)) VX VY sp then k (mvR 0 0 0 0 0 4) else k (mvR (IntKind.i64.wrap (ax + VX)) (IntKind.i64.wrap (ay + VY)) VX VY sp 0)
noncomputable def rnx2 {α : Type} (ax ay vx vy sp ux uy lx ly B A : Int) (k : AOut → Option α) : Option α :=
  rnx3 ax ay sp (IntKind.i64.wrap (IntKind.i64.wrap (vx - twoV (mulE ux B 0) (mulE uy B 0) (mulV ux B 0)) + twoV (mulE lx A 0) (mulE ly A 0) (mulV lx A 0)))
    (IntKind.i64.wrap (IntKind.i64.wrap (vy - twoV (mulE ux B 0) (mulE uy B 0) (mulV uy B 0)) + twoV (mulE lx A 0) (mulE ly A 0) (mulV ly A 0))) k
noncomputable def rnx1 {α : Type} (ax ay vx vy sp sl bd u : Int) (k : AOut → Option α) : Option α :=
  bif decide (lenV vx vy 1 ≤ scV sl (IntKind.i64.wrap (5000 - u)) 5000 3) then k (mvR ax ay 0 0 0 0)
  else rnx2 ax ay vx vy sp (uniV vx vy vx) (uniV vx vy vy) (lefX (uniV vx vy vx) (uniV vx vy vy)) (lefY (uniV vx vy vx) (uniV vx vy vy)) (scV sl (IntKind.i64.wrap (5000 - u)) 5000 3) (mulV (scV sl (IntKind.i64.wrap (5000 - u)) 5000 3) (scV (scV bd (IntKind.i64.wrap (2000 - u)) 2000 3) sp 1000 0) 0) k
set_option maxRecDepth 100000 in
theorem rnxt_text (N n0 : Nat) (α : Type) (cx cy sd w h : Int) (pb po : List Int) (fl ke sw be we : Int) (ax ay vx vy sp : Int) (u : Int) (k : AOut → Option α) : evFn real tab ((twY fnRa spL).env real tab N (n0 + 8)) N Tryz.f59 α [.agg [.int .i64 cx, .int .i64 cy, .int .i64 sd, .int .i64 w, .int .i64 h, .ro (.int .i64) pb, .ro (.int .i64) po], .agg [.int .i64 fl, .int .i64 ke, .int .i64 sw, .int .i64 be, .int .i64 we], .agg [.int .i64 ax, .int .i64 ay, .int .i64 vx, .int .i64 vy, .int .i64 sp], .int .i64 u] k = rnx1 ax ay vx vy sp (slwV cx cy sd w h pb po fl ke sw be we ax ay) (bdvV cx cy sd w h pb po fl ke sw be we ax ay) u k := by kernel_rfl
theorem rnx_fin {α : Type} {sl bd ax ay vx vy sp n : Int} (h : TkOk sl bd ax ay vx vy sp n) (k : AOut → Option α) : rnx1 ax ay vx vy sp sl bd n k = k (tkO true sl bd ax ay vx vy sp n) := by
  have g := tk_is h
  have h1 := h.n
  obtain ⟨l1, l2, l3, l4⟩ := len_down h.vx h.vy
  unfold rnx1
  rw [i64_in (5000 - n) (by omega), i64_in (2000 - n) (by omega), (sc_near h.sl (n := 5000 - n) (d := 5000) ⟨by omega, by omega⟩ ⟨by omega, by omega⟩).1, (sc_near h.bd (n := 2000 - n) (d := 2000) ⟨by omega, by omega⟩ ⟨by omega, by omega⟩).1, sc_spin g.b1 h.sp]
  show (bif tkR sl vx vy n then _ else rnx2 ax ay vx vy sp _ _ _ _ (tkB sl n) (mulV (tkB sl n) (tkC bd n sp) 0) k) = _
  unfold tkO tsA tsB tsC tsD tsE tsZ tkStep
  cases hr : tkR sl vx vy n
  · have hr' : ¬ lenV vx vy 1 ≤ tkB sl n := of_decide_eq_false hr
    have d := dir_of (ok_le h.vx (by omega)) (ok_le h.vy (by omega)) (fun hz => hr' (by rw [l4 hz]; exact g.b.1))
    have dx := d.ux; have dy := d.uy; have gb := g.b; have ga := g.a; have gc := g.c
    have px := h.px; have py := h.py; have hvx := h.vx; have hvy := h.vy
    have cb := cut_in d.ux (b := tkB sl n) (B := 65536) ⟨by omega, by omega⟩
    have cc := cut_in d.uy (b := tkB sl n) (B := 65536) ⟨by omega, by omega⟩
    have ca := cut_in (a := -uniV vx vy vy) ⟨by omega, by omega⟩ ga
    have cd := cut_in d.ux ga
    obtain ⟨t1, t2⟩ := ml_cut (a := uniV vx vy vx) (b := tkB sl n) ⟨by omega, by omega⟩ ⟨by omega, by omega⟩
    obtain ⟨t3, t4⟩ := ml_cut (a := uniV vx vy vy) (b := tkB sl n) ⟨by omega, by omega⟩ ⟨by omega, by omega⟩
    obtain ⟨m1, m2⟩ := ml_cut (a := tkB sl n) (b := tkC bd n sp) ⟨by omega, by omega⟩ ⟨by omega, by omega⟩
    obtain ⟨s1, s2⟩ := ml_cut (a := -uniV vx vy vy) (b := cutP (tkB sl n) (tkC bd n sp)) ⟨by omega, by omega⟩ ⟨by omega, by omega⟩
    obtain ⟨s3, s4⟩ := ml_cut (a := uniV vx vy vx) (b := cutP (tkB sl n) (tkC bd n sp)) ⟨by omega, by omega⟩ ⟨by omega, by omega⟩
    have o1 : okB (uniV vx vy vx) = true := ok_le d.ux (by omega)
    have o2 : okB (uniV vx vy vy) = true := ok_le d.uy (by omega)
    have hlx : lefX (uniV vx vy vx) (uniV vx vy vy) = -uniV vx vy vy := by
      unfold lefX
      rw [o1, o2, i64_in (0 - uniV vx vy vy) (by omega)]
      simp only [Bool.and_self, cond_true]; omega
    have hly : lefY (uniV vx vy vx) (uniV vx vy vy) = uniV vx vy vx := by
      unfold lefY
      rw [o1, o2]; rfl
    have vX : -65667072 ≤ tkVX sl bd vx vy sp n ∧ tkVX sl bd vx vy sp n ≤ 65667072 := by unfold tkVX; omega
    have vY : -65667072 ≤ tkVY sl bd vx vy sp n ∧ tkVY sl bd vx vy sp n ≤ 65667072 := by unfold tkVY; omega
    unfold rnx2
    rw [hlx, hly, m2, t1, t2, t3, t4, s1, s2, s3, s4]
    show rnx3 ax ay sp (IntKind.i64.wrap (IntKind.i64.wrap (vx - cutP (uniV vx vy vx) (tkB sl n)) + cutP (-uniV vx vy vy) (cutP (tkB sl n) (tkC bd n sp)))) (IntKind.i64.wrap (IntKind.i64.wrap (vy - cutP (uniV vx vy vy) (tkB sl n)) + cutP (uniV vx vy vx) (cutP (tkB sl n) (tkC bd n sp)))) k = _
    rw [i64_in (vx - cutP (uniV vx vy vx) (tkB sl n)) (by omega), i64_in (vy - cutP (uniV vx vy vy) (tkB sl n)) (by omega), i64_in (_ + _) (by omega), i64_in (_ + _) (by omega)]
    show rnx3 ax ay sp (tkVX sl bd vx vy sp n) (tkVY sl bd vx vy sp n) k = _
    unfold rnx3 tkM
    rw [i64_in (ax + tkVX sl bd vx vy sp n) (by omega), i64_in (ay + tkVY sl bd vx vy sp n) (by omega)]
    cases movB (ax + tkVX sl bd vx vy sp n) (ay + tkVY sl bd vx vy sp n) (tkVX sl bd vx vy sp n) (tkVY sl bd vx vy sp n) sp <;> rfl
  · rfl
--FIN rnxt | besom/besomref04.Next | $ICB $GB $MB (u : Int) | $ICE, $GR, $MO, .int .i64 u | tkO true (slwV $ICV $GV ax ay) (bdvV $ICV $GV ax ay) $MV u | rgtB $ICV $GV $MV u
theorem rnxt_fin (cx cy sd w h : Int) (pb po : List Int) (fl ke sw be we : Int) (ax ay vx vy sp : Int) (u : Int) (hs : ∀ qSm ∈ ([.agg [.int .i64 cx, .int .i64 cy, .int .i64 sd, .int .i64 w, .int .i64 h, .ro (.int .i64) pb, .ro (.int .i64) po], .agg [.int .i64 fl, .int .i64 ke, .int .i64 sw, .int .i64 be, .int .i64 we], .agg [.int .i64 ax, .int .i64 ay, .int .i64 vx, .int .i64 vy, .int .i64 sp], .int .i64 u] : List AVal), Sm qSm) (hCo : (rgtB cx cy sd w h pb po fl ke sw be we ax ay vx vy sp u) = true) : ∃ N n, ∀ α (k : AOut → Option α), evFn real tab ((twY fnRa spL).env real tab N n) N Tryz.f59 α [.agg [.int .i64 cx, .int .i64 cy, .int .i64 sd, .int .i64 w, .int .i64 h, .ro (.int .i64) pb, .ro (.int .i64) po], .agg [.int .i64 fl, .int .i64 ke, .int .i64 sw, .int .i64 be, .int .i64 we], .agg [.int .i64 ax, .int .i64 ay, .int .i64 vx, .int .i64 vy, .int .i64 sp], .int .i64 u] k = k (tkO true (slwV cx cy sd w h pb po fl ke sw be we ax ay) (bdvV cx cy sd w h pb po fl ke sw be we ax ay) ax ay vx vy sp u) := by
  exact ⟨8, 8, fun α k => (rnxt_text 8 0 α cx cy sd w h pb po fl ke sw be we ax ay vx vy sp u k).trans (rnx_fin (rgt_ok _ _ _ _ _ _ _ _ _ _ _ _ _ _ _ _ _ _ hCo).1 k)⟩
--CON rnxt
noncomputable def rnxtS : Fsp := fun _ args k => match args with
  | [.agg [.int .i64 cx, .int .i64 cy, .int .i64 sd, .int .i64 w, .int .i64 h, .ro (.int .i64) pb, .ro (.int .i64) po], .agg [.int .i64 fl, .int .i64 ke, .int .i64 sw, .int .i64 be, .int .i64 we], .agg [.int .i64 ax, .int .i64 ay, .int .i64 vx, .int .i64 vy, .int .i64 sp], .int .i64 u] => bif rgtB cx cy sd w h pb po fl ke sw be we ax ay vx vy sp u then (k (tkO true (slwV cx cy sd w h pb po fl ke sw be we ax ay) (bdvV cx cy sd w h pb po fl ke sw be we ax ay) ax ay vx vy sp u)) else none
  | _ => none
theorem rnxtS_ok : FspOk Tryz.prog 59 rnxtS := tower_Y fnRa_ok spL_ok ⟨Tryz.func59, fun _ _ => by kernel_rfl⟩ (by intro α args k; unfold rnxtS; split <;> simp only [cond_bind, Option.bind_some, Option.bind_none]) fun args out hSm hEq => by
  unfold rnxtS at hEq
  split at hEq
  · rename_i cx cy sd w h pb po fl ke sw be we ax ay vx vy sp u
    cases hc : rgtB cx cy sd w h pb po fl ke sw be we ax ay vx vy sp u
    · rw [hc] at hEq; cases hEq
    · rw [hc] at hEq
      obtain ⟨N, n, e⟩ := rnxt_fin cx cy sd w h pb po fl ke sw be we ax ay vx vy sp u hSm hc
      exact ⟨N, n, (e AOut some).trans hEq⟩
  · cases hEq
--END
--FS fnRb | fnRa | rbrs=besom/besomref04.Brooms;rstr=besom/besomref04.strength;rnxt
noncomputable def fnRb : FuncId → Option Fsp := fun g =>
  if g = 55 then some rbrsS else
  if g = 57 then some rstrS else
  if g = 59 then some rnxtS else
  fnRa g
theorem fnRb_ok : FsOk fnRb :=
  fs_cons rbrsS_ok <|
  fs_cons rstrS_ok <|
  fs_cons rnxtS_ok <|
  fnRa_ok
--END
--AT fnRb spL twY
--TEXT rStr | twY fnRb spL | 8 | besom/besomref04.Strength | (l : List BrI) (t : Int) | .ro $BSH l, .int .i64 t
--KEY 37acb7737e
set_option maxRecDepth 100000 in
theorem rStr_text (N n0 : Nat) (α : Type) (l : List BrI) (t : Int) (k : AOut → Option α) : evFn real tab ((twY fnRb spL).env real tab N (n0 + 8)) N Tryz.f21 α [.ro (.recd (.cons (.int .i64) (.cons (.int .i64) (.cons (.int .i64) .nil)))) l, .int .i64 t] k =
  bif !brsB l then k (AOut.ret (AVal.tup [AVal.int IntKind.i64 0, AVal.int IntKind.i64 2]))
  else
    bif decide (0 ≤ t) then
      bif !decide (t ≤ 6000) then k (AOut.ret (AVal.tup [AVal.int IntKind.i64 0, AVal.int IntKind.i64 2]))
      else k (AOut.ret (AVal.tup [AVal.int IntKind.i64 (strN l t), AVal.int IntKind.i64 0]))
    else k (AOut.ret (AVal.tup [AVal.int IntKind.i64 0, AVal.int IntKind.i64 2])) := by kernel_rfl
--END
--END
--TEXT rTick | twY fnRb spL | 8 | besom/besomref04.Tick | $ICB $GB $MB (u : Int) | $ICE, $GR, $MO, .int .i64 u
--KEY 90b6298b54
set_option maxRecDepth 100000 in
theorem rTick_text (N n0 : Nat) (α : Type) (cx cy sd w h : Int) (pb po : List Int) (fl ke sw be we : Int) (ax ay vx vy sp : Int) (u : Int) (k : AOut → Option α) : evFn real tab ((twY fnRb spL).env real tab N (n0 + 8)) N Tryz.f22 α [.agg [.int .i64 cx, .int .i64 cy, .int .i64 sd, .int .i64 w, .int .i64 h, .ro (.int .i64) pb, .ro (.int .i64) po], .agg [.int .i64 fl, .int .i64 ke, .int .i64 sw, .int .i64 be, .int .i64 we], .agg [.int .i64 ax, .int .i64 ay, .int .i64 vx, .int .i64 vy, .int .i64 sp], .int .i64 u] k =
  bif iceB cx cy sd w h pb po then
    bif graB fl ke sw be we then
      bif movB ax ay vx vy sp then
        bif decide (0 ≤ u) then
          bif !decide (u ≤ 1000) then
            k
              (AOut.ret
                (AVal.tup
                  [AVal.agg
                      [AVal.int IntKind.i64 0, AVal.int IntKind.i64 0, AVal.int IntKind.i64 0, AVal.int IntKind.i64 0,
                        AVal.int IntKind.i64 0],
                    AVal.int IntKind.i64 2]))
          else
            bif rgtB cx cy sd w h pb po fl ke sw be we ax ay vx vy sp u then
              k
                (AOut.ret
                  (AVal.tup
                    [AVal.agg
                        [AVal.int IntKind.i64
                            (tsA true (slwV cx cy sd w h pb po fl ke sw be we ax ay)
                              (bdvV cx cy sd w h pb po fl ke sw be we ax ay) ax ay vx vy sp u),
                          AVal.int IntKind.i64
                            (tsB true (slwV cx cy sd w h pb po fl ke sw be we ax ay)
                              (bdvV cx cy sd w h pb po fl ke sw be we ax ay) ax ay vx vy sp u),
                          AVal.int IntKind.i64
                            (tsC true (slwV cx cy sd w h pb po fl ke sw be we ax ay)
                              (bdvV cx cy sd w h pb po fl ke sw be we ax ay) ax ay vx vy sp u),
                          AVal.int IntKind.i64
                            (tsD true (slwV cx cy sd w h pb po fl ke sw be we ax ay)
                              (bdvV cx cy sd w h pb po fl ke sw be we ax ay) ax ay vx vy sp u),
                          AVal.int IntKind.i64
                            (tsE true (slwV cx cy sd w h pb po fl ke sw be we ax ay)
                              (bdvV cx cy sd w h pb po fl ke sw be we ax ay) ax ay vx vy sp u)],
                      AVal.int IntKind.i64
                        (tsZ true (slwV cx cy sd w h pb po fl ke sw be we ax ay)
                          (bdvV cx cy sd w h pb po fl ke sw be we ax ay) ax ay vx vy sp u)]))
            else none
        else
          k
            (AOut.ret
              (AVal.tup
                [AVal.agg
                    [AVal.int IntKind.i64 0, AVal.int IntKind.i64 0, AVal.int IntKind.i64 0, AVal.int IntKind.i64 0,
                      AVal.int IntKind.i64 0],
                  AVal.int IntKind.i64 2]))
      else
        k
          (AOut.ret
            (AVal.tup
              [AVal.agg
                  [AVal.int IntKind.i64 0, AVal.int IntKind.i64 0, AVal.int IntKind.i64 0, AVal.int IntKind.i64 0,
                    AVal.int IntKind.i64 0],
                AVal.int IntKind.i64 2]))
    else
      k
        (AOut.ret
          (AVal.tup
            [AVal.agg
                [AVal.int IntKind.i64 0, AVal.int IntKind.i64 0, AVal.int IntKind.i64 0, AVal.int IntKind.i64 0,
                  AVal.int IntKind.i64 0],
              AVal.int IntKind.i64 2]))
  else
    k
      (AOut.ret
        (AVal.tup
          [AVal.agg
              [AVal.int IntKind.i64 0, AVal.int IntKind.i64 0, AVal.int IntKind.i64 0, AVal.int IntKind.i64 0,
                AVal.int IntKind.i64 0],
            AVal.int IntKind.i64 2])) := by kernel_rfl
--END
--END
--FIN rStr | besom/besomref04.Strength | (l : List BrI) (t : Int) | .ro $BSH l, .int .i64 t | i2 (selI (brsB l && tckB t) (strN l t)) (er2 (brsB l && tckB t))
theorem rStr_fin (l : List BrI) (t : Int) (hs : ∀ qSm ∈ ([.ro (.recd (.cons (.int .i64) (.cons (.int .i64) (.cons (.int .i64) .nil)))) l, .int .i64 t] : List AVal), Sm qSm) : ∃ N n, ∀ α (k : AOut → Option α), evFn real tab ((twY fnRb spL).env real tab N n) N Tryz.f21 α [.ro (.recd (.cons (.int .i64) (.cons (.int .i64) (.cons (.int .i64) .nil)))) l, .int .i64 t] k = k (i2 (selI (brsB l && tckB t) (strN l t)) (er2 (brsB l && tckB t))) := by
  refine ⟨8, 8, fun α k => (rStr_text 8 0 α l t k).trans ?_⟩
  unfold tckB
  cases brsB l
  · rfl
  cases decide (0 ≤ t)
  · rfl
  cases decide (t ≤ 6000) <;> rfl
--CON rStr
noncomputable def rStrS : Fsp := fun _ args k => match args with
  | [.ro (.recd (.cons (.int .i64) (.cons (.int .i64) (.cons (.int .i64) .nil)))) l, .int .i64 t] => k (i2 (selI (brsB l && tckB t) (strN l t)) (er2 (brsB l && tckB t)))
  | _ => none
theorem rStrS_ok : FspOk Tryz.prog 21 rStrS := tower_Y fnRb_ok spL_ok ⟨Tryz.func21, fun _ _ => by kernel_rfl⟩ (by intro α args k; unfold rStrS; split <;> rfl) fun args out hSm hEq => by
  unfold rStrS at hEq
  split at hEq
  · rename_i l t
    obtain ⟨N, n, e⟩ := rStr_fin l t hSm
    exact ⟨N, n, (e AOut some).trans hEq⟩
  · cases hEq
--END
--FIN rTick | besom/besomref04.Tick | $ICB $GB $MB (u : Int) | $ICE, $GR, $MO, .int .i64 u | tkO (rgtB $ICV $GV $MV u) (slwV $ICV $GV ax ay) (bdvV $ICV $GV ax ay) $MV u
theorem rTick_fin (cx cy sd w h : Int) (pb po : List Int) (fl ke sw be we : Int) (ax ay vx vy sp : Int) (u : Int) (hs : ∀ qSm ∈ ([.agg [.int .i64 cx, .int .i64 cy, .int .i64 sd, .int .i64 w, .int .i64 h, .ro (.int .i64) pb, .ro (.int .i64) po], .agg [.int .i64 fl, .int .i64 ke, .int .i64 sw, .int .i64 be, .int .i64 we], .agg [.int .i64 ax, .int .i64 ay, .int .i64 vx, .int .i64 vy, .int .i64 sp], .int .i64 u] : List AVal), Sm qSm) : ∃ N n, ∀ α (k : AOut → Option α), evFn real tab ((twY fnRb spL).env real tab N n) N Tryz.f22 α [.agg [.int .i64 cx, .int .i64 cy, .int .i64 sd, .int .i64 w, .int .i64 h, .ro (.int .i64) pb, .ro (.int .i64) po], .agg [.int .i64 fl, .int .i64 ke, .int .i64 sw, .int .i64 be, .int .i64 we], .agg [.int .i64 ax, .int .i64 ay, .int .i64 vx, .int .i64 vy, .int .i64 sp], .int .i64 u] k = k (tkO (rgtB cx cy sd w h pb po fl ke sw be we ax ay vx vy sp u) (slwV cx cy sd w h pb po fl ke sw be we ax ay) (bdvV cx cy sd w h pb po fl ke sw be we ax ay) ax ay vx vy sp u) := by
  refine ⟨8, 8, fun α k => (rTick_text 8 0 α cx cy sd w h pb po fl ke sw be we ax ay vx vy sp u k).trans ?_⟩
  unfold tkO tsA tsB tsC tsD tsE tsZ rgtB grnB
  cases iceB cx cy sd w h pb po
  · rfl
  cases graB fl ke sw be we
  · rfl
  cases movB ax ay vx vy sp
  · rfl
  cases decide (0 ≤ u)
  · rfl
  cases decide (u ≤ 1000) <;> rfl
--CON rTick
noncomputable def rTickS : Fsp := fun _ args k => match args with
  | [.agg [.int .i64 cx, .int .i64 cy, .int .i64 sd, .int .i64 w, .int .i64 h, .ro (.int .i64) pb, .ro (.int .i64) po], .agg [.int .i64 fl, .int .i64 ke, .int .i64 sw, .int .i64 be, .int .i64 we], .agg [.int .i64 ax, .int .i64 ay, .int .i64 vx, .int .i64 vy, .int .i64 sp], .int .i64 u] => k (tkO (rgtB cx cy sd w h pb po fl ke sw be we ax ay vx vy sp u) (slwV cx cy sd w h pb po fl ke sw be we ax ay) (bdvV cx cy sd w h pb po fl ke sw be we ax ay) ax ay vx vy sp u)
  | _ => none
theorem rTickS_ok : FspOk Tryz.prog 22 rTickS := tower_Y fnRb_ok spL_ok ⟨Tryz.func22, fun _ _ => by kernel_rfl⟩ (by intro α args k; unfold rTickS; split <;> rfl) fun args out hSm hEq => by
  unfold rTickS at hEq
  split at hEq
  · rename_i cx cy sd w h pb po fl ke sw be we ax ay vx vy sp u
    obtain ⟨N, n, e⟩ := rTick_fin cx cy sd w h pb po fl ke sw be we ax ay vx vy sp u hSm
    exact ⟨N, n, (e AOut some).trans hEq⟩
  · cases hEq
--END
end Go.Proofs.YtgpljldfbhkdlaaGreat

/- Glide: runs, plain; loops that step from a state to the next one. -/
namespace Go.Proofs.YtgpljldfbhkdlaaGreat
open Go.RowKit

section
variable {S A σ α : Type}
/-- The states behind each step, as long as none is the last one; none: a step fails. -/
def runL (nx : Nat → S → Option S) (z : S → Bool) : Nat → Nat → S → Option (List S)
  | 0, _, _ => some []
  | n + 1, i, s => bif z s then some [] else match nx i s with
    | none => none
    | some s' => match runL nx z n (i + 1) s' with
      | none => none
      | some l => some (s' :: l)
def lastD (s : S) (l : List S) : S := l.foldl (fun _ x => x) s
theorem run_loop {f : σ → Option (LRes σ α)} {K : Nat → σ → Option α} (nx : Nat → S → Option S) (z : S → Bool) (st : Nat → A → S → σ) (up : A → S → A) (R : Option α) {b M : Nat} (inv : Nat → A → S → Prop)
    (h : ∀ i a s, i < M → inv i a s → z s = false → (nx i s = none → f (st i a s) = finL R) ∧ ∀ s', nx i s = some s' → f (st i a s) = some (.cont (st (i + 1) (up a s') s')) ∧ inv (i + 1) (up a s') s')
    (hz : ∀ i a s, i < M → inv i a s → z s = true → f (st i a s) = some (.brk b (st i a s)))
    (hend : ∀ a s, inv M a s → f (st M a s) = some (.brk b (st M a s))) :
    ∀ (n i : Nat) (a : A) (s : S), i + n = M → inv i a s → ∀ N, n < N → afterL (iterL N f (st i a s)) K = match runL nx z n i s with | none => R | some l => K b (st (i + l.length) (l.foldl up a) (lastD s l)) := by
  intro n
  induction n with
  | zero =>
    intro i a s hi hv N hN
    obtain ⟨N', rfl⟩ : ∃ N', N = N' + 1 := ⟨N - 1, by omega⟩
    have : i = M := by omega
    subst this
    unfold iterL
    rw [hend a s hv]
    rfl
  | succ n ih =>
    intro i a s hi hv N hN
    obtain ⟨N', rfl⟩ : ∃ N', N = N' + 1 := ⟨N - 1, by omega⟩
    unfold iterL runL
    cases hz' : z s
    · obtain ⟨h1, h2⟩ := h i a s (by omega) hv hz'
      cases hn : nx i s with
      | none =>
        rw [h1 hn]
        cases R <;> rfl
      | some s' =>
        obtain ⟨h3, h4⟩ := h2 s' hn
        rw [h3]
        have e := ih (i + 1) (up a s') s' (by omega) h4 N' (by omega)
        simp only [cond_false]
        rw [e]
        cases runL nx z n (i + 1) s' with
        | none => rfl
        | some l =>
          simp only [List.length_cons, List.foldl_cons, lastD]
          rw [show i + 1 + l.length = i + (l.length + 1) by omega]
    · rw [hz i a s (by omega) hv hz']
      rfl
theorem runL_len (nx : Nat → S → Option S) (z : S → Bool) : ∀ (n i : Nat) (s : S) l, runL nx z n i s = some l → l.length ≤ n
  | 0, i, s, l, h => by cases h; exact Nat.le_refl _
  | n + 1, i, s, l, h => by
    unfold runL at h
    cases hz : z s
    · rw [hz] at h
      simp only [cond_false] at h
      cases hn : nx i s with
      | none => rw [hn] at h; cases h
      | some s' =>
        rw [hn] at h
        simp only at h
        cases hr : runL nx z n (i + 1) s' with
        | none => rw [hr] at h; cases h
        | some l' =>
          rw [hr] at h
          cases h
          have := runL_len nx z n (i + 1) s' l' hr
          simp only [List.length_cons]; omega
    · rw [hz] at h; cases h; exact Nat.zero_le _
end

/-! Stones. -/
abbrev St5 := Int × Int × Int × Int × Int
def z5 (s : St5) : Bool := s.2.2.1 == 0 && (s.2.2.2.1 == 0 && true)
def mov5 (s : St5) : Bool := movB s.1 s.2.1 s.2.2.1 s.2.2.2.1 s.2.2.2.2
/-- The next tick of a run. -/
noncomputable def gnx (cx cy sd w h : Int) (pb po : List Int) (fl ke sw be we : Int) (l : List BrI) (i : Nat) (s : St5) : Option St5 := tkStep (slwV cx cy sd w h pb po fl ke sw be we s.1 s.2.1) (bdvV cx cy sd w h pb po fl ke sw be we s.1 s.2.1) s.1 s.2.1 s.2.2.1 s.2.2.2.1 s.2.2.2.2 (strN l i) (fun a b c d e => some (a, b, c, d, e)) none
theorem gnx_step {β : Type} (cx cy sd w h : Int) (pb po : List Int) (fl ke sw be we : Int) (l : List BrI) (i : Nat) (s : St5) (r : Int → Int → Int → Int → Int → β) (z : β) : tkStep (slwV cx cy sd w h pb po fl ke sw be we s.1 s.2.1) (bdvV cx cy sd w h pb po fl ke sw be we s.1 s.2.1) s.1 s.2.1 s.2.2.1 s.2.2.2.1 s.2.2.2.2 (strN l i) r z = match gnx cx cy sd w h pb po fl ke sw be we l i s with | none => z | some s' => r s'.1 s'.2.1 s'.2.2.1 s'.2.2.2.1 s'.2.2.2.2 := by
  unfold gnx tkStep
  cases tkR (slwV cx cy sd w h pb po fl ke sw be we s.1 s.2.1) s.2.2.1 s.2.2.2.1 (strN l i) <;> cases tkM (slwV cx cy sd w h pb po fl ke sw be we s.1 s.2.1) (bdvV cx cy sd w h pb po fl ke sw be we s.1 s.2.1) s.1 s.2.1 s.2.2.1 s.2.2.2.1 s.2.2.2.2 (strN l i) <;> rfl
theorem rgt5 (cx cy sd w h : Int) (pb po : List Int) (fl ke sw be we : Int) (l : List BrI) (i : Nat) (s : St5) (hi : iceB cx cy sd w h pb po = true) (hg : graB fl ke sw be we = true) (hl : l.all brmB = true) (hs : mov5 s = true) : rgtB cx cy sd w h pb po fl ke sw be we s.1 s.2.1 s.2.2.1 s.2.2.2.1 s.2.2.2.2 (strN l i) = true := by
  have := str_in hl i
  unfold rgtB
  rw [hi, hg, show movB s.1 s.2.1 s.2.2.1 s.2.2.2.1 s.2.2.2.2 = true from hs, show grnB (strN l i) = true from in_dec.2 this]
  rfl
theorem gnx_mov (cx cy sd w h : Int) (pb po : List Int) (fl ke sw be we : Int) (l : List BrI) (i : Nat) (s s' : St5) (hs : mov5 s = true) (hn : gnx cx cy sd w h pb po fl ke sw be we l i s = some s') : mov5 s' = true := by
  unfold gnx tkStep at hn
  cases hr : tkR (slwV cx cy sd w h pb po fl ke sw be we s.1 s.2.1) s.2.2.1 s.2.2.2.1 (strN l i)
  · rw [hr] at hn
    cases hm : tkM (slwV cx cy sd w h pb po fl ke sw be we s.1 s.2.1) (bdvV cx cy sd w h pb po fl ke sw be we s.1 s.2.1) s.1 s.2.1 s.2.2.1 s.2.2.2.1 s.2.2.2.2 (strN l i)
    · rw [hm] at hn; cases hn
    · rw [hm] at hn
      cases hn
      exact hm
  · rw [hr] at hn
    cases hn
    obtain ⟨p, v, sp⟩ := mov_iff.1 hs
    show movB s.1 s.2.1 0 0 0 = true
    exact mov_iff.2 ⟨p, ⟨⟨by omega, by omega⟩, ⟨by omega, by omega⟩⟩, ⟨by omega, by omega⟩⟩
noncomputable def gRL (cx cy sd w h : Int) (pb po : List Int) (fl ke sw be we : Int) (ax ay vx vy sp : Int) (l : List BrI) (m : Int) : Option (List St5) := runL (gnx cx cy sd w h pb po fl ke sw be we l) z5 m.toNat 0 (ax, ay, vx, vy, sp)
def rnP (o : Option (List St5)) (s : St5) : St5 := match o with | none => (0, 0, 0, 0, 0) | some l => lastD s l
def rnT (o : Option (List St5)) : Int := match o with | none => 0 | some l => (l.length : Int)
def rnE (o : Option (List St5)) : Int := match o with | none => 4 | some _ => 0
/-- The end of a run, or its error. -/
def rnX (c : Bool) (o : Option (List St5)) (s : St5) : Int := selI c (rnP o s).1
def rnY (c : Bool) (o : Option (List St5)) (s : St5) : Int := selI c (rnP o s).2.1
def rnU (c : Bool) (o : Option (List St5)) (s : St5) : Int := selI c (rnP o s).2.2.1
def rnV (c : Bool) (o : Option (List St5)) (s : St5) : Int := selI c (rnP o s).2.2.2.1
def rnS (c : Bool) (o : Option (List St5)) (s : St5) : Int := selI c (rnP o s).2.2.2.2
def rnN (c : Bool) (o : Option (List St5)) : Int := selI c (rnT o)
def rnZ (c : Bool) (o : Option (List St5)) : Int := bif c then rnE o else 2
def rnO (c : Bool) (o : Option (List St5)) (s : St5) : AOut := .ret (.tup [.agg [.int .i64 (rnX c o s), .int .i64 (rnY c o s), .int .i64 (rnU c o s), .int .i64 (rnV c o s), .int .i64 (rnS c o s)], .int .i64 (rnN c o), .int .i64 (rnZ c o)])
def rnB (cx cy sd w h : Int) (pb po : List Int) (fl ke sw be we : Int) (ax ay vx vy sp : Int) (l : List BrI) (m : Int) : Bool := iceB cx cy sd w h pb po && graB fl ke sw be we && movB ax ay vx vy sp && brsB l && tckB m
/-! Places of a way. -/
abbrev SpI := Int × Int × Unit
def spD : SpI := (0, 0, ())
def sp5 (s : St5) : SpI := (s.1, s.2.1, ())
def wyP (e : Int) (n : Nat) (t : Nat) : Bool := (t : Int).tmod e == 0 || (t : Int) == IntKind.i64.wrap ((n : Int) - 1)
def wayL (e : Int) (L : List SpI) (n : Nat) : List SpI := ((List.range n).filter (wyP e L.length)).map fun t => L.getD t spD
theorem wayL_next (e : Int) (L : List SpI) (n : Nat) : wayL e L (n + 1) = bif wyP e L.length n then wayL e L n ++ [L.getD n spD] else wayL e L n := by
  unfold wayL
  rw [List.range_succ, List.filter_append, List.map_append]
  cases h : wyP e L.length n
  · simp [h]
  · simp [h]
theorem wayL_len (e : Int) (L : List SpI) (n : Nat) : (wayL e L n).length ≤ n := by
  unfold wayL
  rw [List.length_map]
  exact Nat.le_trans (List.length_filter_le _ _) (by simp)
def wyL (c : Bool) (o : Option (List St5)) (s : St5) (e : Int) : List SpI := match c, o with
  | true, some l => wayL e ((s :: l).map sp5) (l.length + 1)
  | _, _ => []
def wyO (c : Bool) (o : Option (List St5)) (s : St5) (e : Int) : AOut := .ret (.tup [.ro (.recd (.cons (.int .i64) (.cons (.int .i64) .nil))) (wyL c o s e : List SpI), .int .i64 (rnZ c o)])
def wyB (e : Int) : Bool := decide (1 ≤ e) && decide (e ≤ 6000)
theorem foldl_snoc {S B : Type} (g : S → B) : ∀ (l : List S) (a : List B), l.foldl (fun a s => a ++ [g s]) a = a ++ l.map g
  | [], a => by simp
  | s :: l, a => by
    rw [List.foldl_cons, foldl_snoc g l (a ++ [g s])]
    simp
end Go.Proofs.YtgpljldfbhkdlaaGreat

/- The reference: runs and ways (layer 4). -/
namespace Go.Proofs.YtgpljldfbhkdlaaGreat
open Go.RowKit

--FS fnRc | fnRb | rTick=besom/besomref04.Tick;rStr=besom/besomref04.Strength
noncomputable def fnRc : FuncId → Option Fsp := fun g =>
  if g = 22 then some rTickS else
  if g = 21 then some rStrS else
  fnRb g
theorem fnRc_ok : FsOk fnRc :=
  fs_cons rTickS_ok <|
  fs_cons rStrS_ok <|
  fnRb_ok
--END
abbrev MvI := (Int × Int × Unit) × (Int × Int × Unit) × Int × Unit
def toMv (s : St5) : MvI := ((s.1, s.2.1, ()), (s.2.2.1, s.2.2.2.1, ()), s.2.2.2.2, ())
abbrev S7r := List MvI × Int × Int × Int × Int × Int × Int × Unit
noncomputable def rrG {α : Type} (a b c d e z : Int) (x : S7r) (k : AOut → Option α) : Option (LRes S7r α) :=
  bif z != 0 then finL (k (.ret (.tup [.ro (.recd (.cons (.recd (.cons (.int .i64) (.cons (.int .i64) .nil))) (.cons (.recd (.cons (.int .i64) (.cons (.int .i64) .nil))) (.cons (.int .i64) .nil)))) ([] : List MvI), iN z])))
  else if (x.1.length + ([((a, b, ()), (c, d, ()), e, ())] : List MvI).length) * 40 ≤ room then some (.cont (x.1 ++ ([((a, b, ()), (c, d, ()), e, ())] : List MvI), IntKind.i64.wrap (x.2.1 + 1), a, b, c, d, e, ())) else none
noncomputable def rrH {α : Type} (cx cy sd w h : Int) (pb po : List Int) (fl ke sw be we : Int) (l : List BrI) (x : S7r) (k : AOut → Option α) : Option (LRes S7r α) :=
  bif rgtB cx cy sd w h pb po fl ke sw be we x.2.2.1 x.2.2.2.1 x.2.2.2.2.1 x.2.2.2.2.2.1 x.2.2.2.2.2.2.1 (strN l x.2.1) then rrG (tsA true (slwV cx cy sd w h pb po fl ke sw be we x.2.2.1 x.2.2.2.1) (bdvV cx cy sd w h pb po fl ke sw be we x.2.2.1 x.2.2.2.1) x.2.2.1 x.2.2.2.1 x.2.2.2.2.1 x.2.2.2.2.2.1 x.2.2.2.2.2.2.1 (strN l x.2.1)) (tsB true (slwV cx cy sd w h pb po fl ke sw be we x.2.2.1 x.2.2.2.1) (bdvV cx cy sd w h pb po fl ke sw be we x.2.2.1 x.2.2.2.1) x.2.2.1 x.2.2.2.1 x.2.2.2.2.1 x.2.2.2.2.2.1 x.2.2.2.2.2.2.1 (strN l x.2.1)) (tsC true (slwV cx cy sd w h pb po fl ke sw be we x.2.2.1 x.2.2.2.1) (bdvV cx cy sd w h pb po fl ke sw be we x.2.2.1 x.2.2.2.1) x.2.2.1 x.2.2.2.1 x.2.2.2.2.1 x.2.2.2.2.2.1 x.2.2.2.2.2.2.1 (strN l x.2.1)) (tsD true (slwV cx cy sd w h pb po fl ke sw be we x.2.2.1 x.2.2.2.1) (bdvV cx cy sd w h pb po fl ke sw be we x.2.2.1 x.2.2.2.1) x.2.2.1 x.2.2.2.1 x.2.2.2.2.1 x.2.2.2.2.2.1 x.2.2.2.2.2.2.1 (strN l x.2.1)) (tsE true (slwV cx cy sd w h pb po fl ke sw be we x.2.2.1 x.2.2.2.1) (bdvV cx cy sd w h pb po fl ke sw be we x.2.2.1 x.2.2.2.1) x.2.2.1 x.2.2.2.1 x.2.2.2.2.1 x.2.2.2.2.2.1 x.2.2.2.2.2.2.1 (strN l x.2.1)) (tsZ true (slwV cx cy sd w h pb po fl ke sw be we x.2.2.1 x.2.2.2.1) (bdvV cx cy sd w h pb po fl ke sw be we x.2.2.1 x.2.2.2.1) x.2.2.1 x.2.2.2.1 x.2.2.2.2.1 x.2.2.2.2.2.1 x.2.2.2.2.2.2.1 (strN l x.2.1)) x k else none
noncomputable def rrF {α : Type} (cx cy sd w h : Int) (pb po : List Int) (fl ke sw be we : Int) (l : List BrI) (m : Int) (k : AOut → Option α) (x : S7r) : Option (LRes S7r α) :=
  bif decide (x.2.1 < m) then
    bif x.2.2.2.2.1 == 0 then
      bif !(x.2.2.2.2.2.1 == 0) then rrH cx cy sd w h pb po fl ke sw be we l x k else some (.brk 0 (x.1, x.2.1, x.2.2.1, x.2.2.2.1, x.2.2.2.2.1, x.2.2.2.2.2.1, x.2.2.2.2.2.2.1, ()))
    else rrH cx cy sd w h pb po fl ke sw be we l x k
  else some (.brk 0 (x.1, x.2.1, x.2.2.1, x.2.2.2.1, x.2.2.2.2.1, x.2.2.2.2.2.1, x.2.2.2.2.2.2.1, ()))
noncomputable def rrT {α : Type} (N : Nat) (cx cy sd w h : Int) (pb po : List Int) (fl ke sw be we : Int) (ax ay vx vy sp : Int) (l : List BrI) (m : Int) (k : AOut → Option α) : Option α :=
  afterL (iterL N (rrF cx cy sd w h pb po fl ke sw be we l m k) ([((ax, ay, ()), (vx, vy, ()), sp, ())], 0, ax, ay, vx, vy, sp, ())) fun id y => if id = 0 then k (.ret (.tup [.ro (.recd (.cons (.recd (.cons (.int .i64) (.cons (.int .i64) .nil))) (.cons (.recd (.cons (.int .i64) (.cons (.int .i64) .nil))) (.cons (.int .i64) .nil)))) y.1, iN 0])) else none
--AT fnRc spL twY
set_option maxRecDepth 100000 in
theorem rrun_text (N n0 : Nat) (α : Type) (cx cy sd w h : Int) (pb po : List Int) (fl ke sw be we : Int) (ax ay vx vy sp : Int) (l : List BrI) (m : Int) (k : AOut → Option α) : evFn real tab ((twY fnRc spL).env real tab N (n0 + 8)) N Tryz.f65 α [.agg [.int .i64 cx, .int .i64 cy, .int .i64 sd, .int .i64 w, .int .i64 h, .ro (.int .i64) pb, .ro (.int .i64) po], .agg [.int .i64 fl, .int .i64 ke, .int .i64 sw, .int .i64 be, .int .i64 we], .agg [.int .i64 ax, .int .i64 ay, .int .i64 vx, .int .i64 vy, .int .i64 sp], .ro (.recd (.cons (.int .i64) (.cons (.int .i64) (.cons (.int .i64) .nil)))) l, .int .i64 m] k = rrT N cx cy sd w h pb po fl ke sw be we ax ay vx vy sp l m k := by kernel_rfl
/-- All stones of a run, or none. -/
def allM (o : Option (List St5)) (s : St5) : List MvI := match o with | none => [] | some l => (s :: l).map toMv
theorem z5_two (s : St5) : z5 s = ((s.2.2.1 == 0) && (s.2.2.2.1 == 0)) := by unfold z5; rw [Bool.and_true]
def st7r (i : Nat) (a : List MvI) (s : St5) : S7r := (a, (i : Int), s.1, s.2.1, s.2.2.1, s.2.2.2.1, s.2.2.2.2, ())
theorem rrT_fin {α : Type} (cx cy sd w h : Int) (pb po : List Int) (fl ke sw be we : Int) (ax ay vx vy sp : Int) (l : List BrI) (m : Int) (hi : iceB cx cy sd w h pb po = true) (hg : graB fl ke sw be we = true) (hm : movB ax ay vx vy sp = true) (hl : l.all brmB = true) (h0 : 0 ≤ m ∧ m ≤ 6000) (k : AOut → Option α) : rrT (m.toNat + 1) cx cy sd w h pb po fl ke sw be we ax ay vx vy sp l m k = k (.ret (.tup [.ro (.recd (.cons (.recd (.cons (.int .i64) (.cons (.int .i64) .nil))) (.cons (.recd (.cons (.int .i64) (.cons (.int .i64) .nil))) (.cons (.int .i64) .nil)))) (allM (gRL cx cy sd w h pb po fl ke sw be we ax ay vx vy sp l m) (ax, ay, vx, vy, sp) : List MvI), iN (rnE (gRL cx cy sd w h pb po fl ke sw be we ax ay vx vy sp l m))])) := by
  unfold rrT
  refine (run_loop (S := St5) (A := List MvI) (gnx cx cy sd w h pb po fl ke sw be we l) z5 st7r (fun a s => a ++ [toMv s]) (k (.ret (.tup [.ro (.recd (.cons (.recd (.cons (.int .i64) (.cons (.int .i64) .nil))) (.cons (.recd (.cons (.int .i64) (.cons (.int .i64) .nil))) (.cons (.int .i64) .nil)))) ([] : List MvI), iN 4]))) (b := 0) (M := m.toNat) (fun i a s => mov5 s = true ∧ a.length = i + 1) (fun i a s hM hv hz => ?_) (fun i a s hM hv hz => ?_) (fun a s hv => ?_) m.toNat 0 [((ax, ay, ()), (vx, vy, ()), sp, ())] (ax, ay, vx, vy, sp) (by omega) ⟨hm, rfl⟩ (m.toNat + 1) (by omega)).trans ?_
  · have e1 : decide (((i : Nat) : Int) < m) = true := decide_eq_true (by omega)
    have e2 : IntKind.i64.wrap ((i : Int) + 1) = ((i + 1 : Nat) : Int) := by rw [i64_in _ (by omega)]; rfl
    have er : (a.length + 1) * 40 ≤ room := by have := hv.2; simp only [room]; omega
    have eH : rrH cx cy sd w h pb po fl ke sw be we l (st7r i a s) k = match gnx cx cy sd w h pb po fl ke sw be we l i s with | none => finL (k (.ret (.tup [.ro (.recd (.cons (.recd (.cons (.int .i64) (.cons (.int .i64) .nil))) (.cons (.recd (.cons (.int .i64) (.cons (.int .i64) .nil))) (.cons (.int .i64) .nil)))) ([] : List MvI), iN 4]))) | some s' => some (.cont (st7r (i + 1) (a ++ [toMv s']) s')) := by
      unfold rrH st7r
      simp only []
      rw [rgt5 cx cy sd w h pb po fl ke sw be we l i s hi hg hl hv.1, cond_true]
      unfold tsA tsB tsC tsD tsE tsZ selI
      simp only [cond_true]
      rw [gnx_step cx cy sd w h pb po fl ke sw be we l i s, gnx_step cx cy sd w h pb po fl ke sw be we l i s, gnx_step cx cy sd w h pb po fl ke sw be we l i s, gnx_step cx cy sd w h pb po fl ke sw be we l i s, gnx_step cx cy sd w h pb po fl ke sw be we l i s, gnx_step cx cy sd w h pb po fl ke sw be we l i s]
      cases gnx cx cy sd w h pb po fl ke sw be we l i s with
      | none => rfl
      | some s' =>
        unfold rrG
        simp only [List.length_singleton, if_pos er, e2, bne_self_eq_false, cond_false]
        rfl
    have e : rrF cx cy sd w h pb po fl ke sw be we l m k (st7r i a s) = rrH cx cy sd w h pb po fl ke sw be we l (st7r i a s) k := by
      rw [z5_two] at hz
      have hd : rrF cx cy sd w h pb po fl ke sw be we l m k (st7r i a s) = bif decide (((i : Nat) : Int) < m) then (bif s.2.2.1 == 0 then (bif !(s.2.2.2.1 == 0) then rrH cx cy sd w h pb po fl ke sw be we l (st7r i a s) k else some (.brk 0 (st7r i a s))) else rrH cx cy sd w h pb po fl ke sw be we l (st7r i a s) k) else some (.brk 0 (st7r i a s)) := rfl
      rw [hd, e1, cond_true]
      cases h1 : (s.2.2.1 == 0)
      · rfl
      · rw [h1] at hz
        rw [Bool.true_and] at hz
        rw [hz]; rfl
    rw [e, eH]
    refine ⟨fun hn => by rw [hn], fun s' hn => ⟨by rw [hn], gnx_mov cx cy sd w h pb po fl ke sw be we l i s s' hv.1 hn, by rw [List.length_append, List.length_singleton, hv.2]⟩⟩
  · have e1 : decide (((i : Nat) : Int) < m) = true := decide_eq_true (by omega)
    have hd : rrF cx cy sd w h pb po fl ke sw be we l m k (st7r i a s) = bif decide (((i : Nat) : Int) < m) then (bif s.2.2.1 == 0 then (bif !(s.2.2.2.1 == 0) then rrH cx cy sd w h pb po fl ke sw be we l (st7r i a s) k else some (.brk 0 (st7r i a s))) else rrH cx cy sd w h pb po fl ke sw be we l (st7r i a s) k) else some (.brk 0 (st7r i a s)) := rfl
    rw [z5_two, Bool.and_eq_true] at hz
    rw [hd, e1, hz.1, hz.2]; rfl
  · have e1 : decide (((m.toNat : Nat) : Int) < m) = false := decide_eq_false (by omega)
    unfold rrF st7r
    simp only [e1, cond_false]
  · unfold gRL
    cases runL (gnx cx cy sd w h pb po fl ke sw be we l) z5 m.toNat 0 (ax, ay, vx, vy, sp) with
    | none => rfl
    | some L =>
      have ef : L.foldl (fun a s => a ++ [toMv s]) [((ax, ay, ()), (vx, vy, ()), sp, ())] = ((ax, ay, vx, vy, sp) :: L).map toMv := by rw [foldl_snoc]; rfl
      simp only [st7r, ef, if_pos]
      rfl
noncomputable def rrunS : Fsp := fun _ args k => match args with
  | [.agg [.int .i64 cx, .int .i64 cy, .int .i64 sd, .int .i64 w, .int .i64 h, .ro (.int .i64) pb, .ro (.int .i64) po], .agg [.int .i64 fl, .int .i64 ke, .int .i64 sw, .int .i64 be, .int .i64 we], .agg [.int .i64 ax, .int .i64 ay, .int .i64 vx, .int .i64 vy, .int .i64 sp], .ro (.recd (.cons (.int .i64) (.cons (.int .i64) (.cons (.int .i64) .nil)))) l, .int .i64 m] => bif rnB cx cy sd w h pb po fl ke sw be we ax ay vx vy sp l m then k (.ret (.tup [.ro (.recd (.cons (.recd (.cons (.int .i64) (.cons (.int .i64) .nil))) (.cons (.recd (.cons (.int .i64) (.cons (.int .i64) .nil))) (.cons (.int .i64) .nil)))) (allM (gRL cx cy sd w h pb po fl ke sw be we ax ay vx vy sp l m) (ax, ay, vx, vy, sp) : List MvI), iN (rnE (gRL cx cy sd w h pb po fl ke sw be we ax ay vx vy sp l m))])) else none
  | _ => none
theorem rrunS_ok : FspOk Tryz.prog 65 rrunS := tower_Y fnRc_ok spL_ok ⟨Tryz.func65, fun _ _ => by kernel_rfl⟩ (by intro α args k; unfold rrunS; split <;> simp only [cond_bind, Option.bind_some, Option.bind_none]) fun args out hSm hEq => by
  unfold rrunS at hEq
  split at hEq
  · rename_i cx cy sd w h pb po fl ke sw be we ax ay vx vy sp l m
    have hEq : (bif rnB cx cy sd w h pb po fl ke sw be we ax ay vx vy sp (l : List BrI) m then some (AOut.ret (.tup [.ro (.recd (.cons (.recd (.cons (.int .i64) (.cons (.int .i64) .nil))) (.cons (.recd (.cons (.int .i64) (.cons (.int .i64) .nil))) (.cons (.int .i64) .nil)))) (allM (gRL cx cy sd w h pb po fl ke sw be we ax ay vx vy sp l m) (ax, ay, vx, vy, sp) : List MvI), iN (rnE (gRL cx cy sd w h pb po fl ke sw be we ax ay vx vy sp l m))])) else none) = some out := hEq
    cases hc : rnB cx cy sd w h pb po fl ke sw be we ax ay vx vy sp (l : List BrI) m
    · rw [hc] at hEq; cases hEq
    · rw [hc] at hEq
      unfold rnB brsB tckB at hc
      simp only [Bool.and_eq_true, decide_eq_true_eq] at hc
      obtain ⟨⟨⟨⟨hi, hg⟩, hm⟩, _, hb⟩, h1, h2⟩ := hc
      exact ⟨m.toNat + 1, 8, (rrun_text (m.toNat + 1) 0 AOut cx cy sd w h pb po fl ke sw be we ax ay vx vy sp l m some).trans ((rrT_fin cx cy sd w h pb po fl ke sw be we ax ay vx vy sp l m hi hg hm hb ⟨h1, h2⟩ some).trans hEq)⟩
  · cases hEq
--FS fnRd | fnRc | rrun=besom/besomref04.run
noncomputable def fnRd : FuncId → Option Fsp := fun g =>
  if g = 65 then some rrunS else
  fnRc g
theorem fnRd_ok : FsOk fnRd :=
  fs_cons rrunS_ok <|
  fnRc_ok
--END
end Go.Proofs.YtgpljldfbhkdlaaGreat

/- Glide: Run and Way. -/
namespace Go.Proofs.YtgpljldfbhkdlaaGreat
open Go.RowKit

abbrev S12 := Int × Int × Int × Int × Int × Int × Int × Int × Int × Int × Int × Int × Unit
noncomputable def grF {α : Type} (cx cy sd w h : Int) (pb po : List Int) (fl ke sw be we : Int) (l : List BrI) (m : Int) (R : Option α) (x : S12) : Option (LRes S12 α) :=
  bif decide (x.1 < m) then
    bif !(x.2.2.2.2.2.2.2.2.2.1 == 0 && (x.2.2.2.2.2.2.2.2.2.2.1 == 0 && true)) then
      bif l.all brmB then
        bif rgtB cx cy sd w h pb po fl ke sw be we x.2.2.2.2.2.2.2.1 x.2.2.2.2.2.2.2.2.1 x.2.2.2.2.2.2.2.2.2.1 x.2.2.2.2.2.2.2.2.2.2.1 x.2.2.2.2.2.2.2.2.2.2.2.1 (strN l x.1) then
          tkStep (slwV cx cy sd w h pb po fl ke sw be we x.2.2.2.2.2.2.2.1 x.2.2.2.2.2.2.2.2.1) (bdvV cx cy sd w h pb po fl ke sw be we x.2.2.2.2.2.2.2.1 x.2.2.2.2.2.2.2.2.1) x.2.2.2.2.2.2.2.1 x.2.2.2.2.2.2.2.2.1 x.2.2.2.2.2.2.2.2.2.1 x.2.2.2.2.2.2.2.2.2.2.1 x.2.2.2.2.2.2.2.2.2.2.2.1 (strN l x.1) (fun a b c d e => some (.cont (IntKind.i64.wrap (x.1 + 1), IntKind.i64.wrap (x.2.1 + 1), a, b, c, d, e, a, b, c, d, e, ()))) (finL R)
        else none
      else none
    else some (.brk 0 (x.1, x.2.1, x.2.2.1, x.2.2.2.1, x.2.2.2.2.1, x.2.2.2.2.2.1, x.2.2.2.2.2.2.1, x.2.2.2.2.2.2.2.1, x.2.2.2.2.2.2.2.2.1, x.2.2.2.2.2.2.2.2.2.1, x.2.2.2.2.2.2.2.2.2.2.1, x.2.2.2.2.2.2.2.2.2.2.2.1, ()))
  else some (.brk 0 (x.1, x.2.1, x.2.2.1, x.2.2.2.1, x.2.2.2.2.1, x.2.2.2.2.2.1, x.2.2.2.2.2.2.1, x.2.2.2.2.2.2.2.1, x.2.2.2.2.2.2.2.2.1, x.2.2.2.2.2.2.2.2.2.1, x.2.2.2.2.2.2.2.2.2.2.1, x.2.2.2.2.2.2.2.2.2.2.2.1, ()))
abbrev rnErr (e : Int) : AOut := .ret (.tup [.agg [iN 0, iN 0, iN 0, iN 0, iN 0], iN 0, iN e])
noncomputable def grT {α : Type} (N : Nat) (cx cy sd w h : Int) (pb po : List Int) (fl ke sw be we : Int) (ax ay vx vy sp : Int) (l : List BrI) (m : Int) (k : AOut → Option α) : Option α :=
  afterL (iterL N (grF cx cy sd w h pb po fl ke sw be we l m (k (rnErr 4))) (0, 0, ax, ay, vx, vy, sp, ax, ay, vx, vy, sp, ())) fun id y => if id = 0 then k (.ret (.tup [.agg [iN y.2.2.1, iN y.2.2.2.1, iN y.2.2.2.2.1, iN y.2.2.2.2.2.1, iN y.2.2.2.2.2.2.1], iN y.2.1, iN 0])) else none
--AT fsG6 spG twY
set_option maxRecDepth 100000 in
theorem gRun_text (N n0 : Nat) (α : Type) (cx cy sd w h : Int) (pb po : List Int) (fl ke sw be we : Int) (ax ay vx vy sp : Int) (l : List BrI) (m : Int) (k : AOut → Option α) : evFn real tab ((twY fsG6 spG).env real tab N (n0 + 12)) N Tryz.f14 α [.agg [.int .i64 cx, .int .i64 cy, .int .i64 sd, .int .i64 w, .int .i64 h, .ro (.int .i64) pb, .ro (.int .i64) po], .agg [.int .i64 fl, .int .i64 ke, .int .i64 sw, .int .i64 be, .int .i64 we], .agg [.int .i64 ax, .int .i64 ay, .int .i64 vx, .int .i64 vy, .int .i64 sp], .ro (.recd (.cons (.int .i64) (.cons (.int .i64) (.cons (.int .i64) .nil)))) l, .int .i64 m] k =
    bif !(iceB cx cy sd w h pb po && graB fl ke sw be we && movB ax ay vx vy sp && brsB l) then k (rnErr 2)
    else bif decide (0 ≤ m) then bif !decide (m ≤ 6000) then k (rnErr 2) else grT N cx cy sd w h pb po fl ke sw be we ax ay vx vy sp l m k else k (rnErr 2) := by kernel_rfl
def st12 (i : Nat) (_ : Unit) (s : St5) : S12 := ((i : Int), (i : Int), s.1, s.2.1, s.2.2.1, s.2.2.2.1, s.2.2.2.2, s.1, s.2.1, s.2.2.1, s.2.2.2.1, s.2.2.2.2, ())
theorem grT_fin {α : Type} (cx cy sd w h : Int) (pb po : List Int) (fl ke sw be we : Int) (ax ay vx vy sp : Int) (l : List BrI) (m : Int) (hi : iceB cx cy sd w h pb po = true) (hg : graB fl ke sw be we = true) (hm : movB ax ay vx vy sp = true) (hl : l.all brmB = true) (h0 : 0 ≤ m ∧ m ≤ 6000) (k : AOut → Option α) : grT (m.toNat + 1) cx cy sd w h pb po fl ke sw be we ax ay vx vy sp l m k = k (rnO true (gRL cx cy sd w h pb po fl ke sw be we ax ay vx vy sp l m) (ax, ay, vx, vy, sp)) := by
  unfold grT
  refine (run_loop (S := St5) (A := Unit) (gnx cx cy sd w h pb po fl ke sw be we l) z5 st12 (fun _ _ => ()) (k (rnErr 4)) (b := 0) (M := m.toNat) (fun _ _ s => mov5 s = true) (fun i a s hM hv hz => ?_) (fun i a s hM hv hz => ?_) (fun a s hv => ?_) m.toNat 0 () (ax, ay, vx, vy, sp) (by omega) hm (m.toNat + 1) (by omega)).trans ?_
  · have e1 : decide (((i : Nat) : Int) < m) = true := decide_eq_true (by omega)
    have e2 : IntKind.i64.wrap ((i : Int) + 1) = ((i + 1 : Nat) : Int) := by rw [i64_in _ (by omega)]; rfl
    have e : grF cx cy sd w h pb po fl ke sw be we l m (k (rnErr 4)) (st12 i a s) = match gnx cx cy sd w h pb po fl ke sw be we l i s with | none => finL (k (rnErr 4)) | some s' => some (.cont (st12 (i + 1) () s')) := by
      unfold grF st12
      simp only [e1, cond_true]
      rw [show (!(s.2.2.1 == 0 && (s.2.2.2.1 == 0 && true))) = true from congrArg (!·) hz, hl, rgt5 cx cy sd w h pb po fl ke sw be we l i s hi hg hl hv, cond_true, cond_true, cond_true, e2]
      exact gnx_step cx cy sd w h pb po fl ke sw be we l i s _ _
    rw [e]
    refine ⟨fun hn => by rw [hn], fun s' hn => ⟨by rw [hn], gnx_mov cx cy sd w h pb po fl ke sw be we l i s s' hv hn⟩⟩
  · have e1 : decide (((i : Nat) : Int) < m) = true := decide_eq_true (by omega)
    unfold grF st12
    simp only [e1, cond_true]
    rw [show (!(s.2.2.1 == 0 && (s.2.2.2.1 == 0 && true))) = false from congrArg (!·) hz]
    rfl
  · have e1 : decide (((m.toNat : Nat) : Int) < m) = false := decide_eq_false (by omega)
    unfold grF st12
    simp only [e1, cond_false]
  · unfold gRL
    cases runL (gnx cx cy sd w h pb po fl ke sw be we l) z5 m.toNat 0 (ax, ay, vx, vy, sp) with
    | none => rfl
    | some L => simp only [st12, Nat.zero_add]; rfl
--FIN gRun | besom/glide.Run | $ICB $GB $MB (l : List BrI) (m : Int) | $ICE, $GR, $MO, .ro $BSH l, .int .i64 m | rnO (rnB $ICV $GV $MV l m) (gRL $ICV $GV $MV l m) (ax, ay, vx, vy, sp)
theorem gRun_fin (cx cy sd w h : Int) (pb po : List Int) (fl ke sw be we : Int) (ax ay vx vy sp : Int) (l : List BrI) (m : Int) (hs : ∀ qSm ∈ ([.agg [.int .i64 cx, .int .i64 cy, .int .i64 sd, .int .i64 w, .int .i64 h, .ro (.int .i64) pb, .ro (.int .i64) po], .agg [.int .i64 fl, .int .i64 ke, .int .i64 sw, .int .i64 be, .int .i64 we], .agg [.int .i64 ax, .int .i64 ay, .int .i64 vx, .int .i64 vy, .int .i64 sp], .ro (.recd (.cons (.int .i64) (.cons (.int .i64) (.cons (.int .i64) .nil)))) l, .int .i64 m] : List AVal), Sm qSm) : ∃ N n, ∀ α (k : AOut → Option α), evFn real tab ((twY fsG6 spG).env real tab N n) N Tryz.f14 α [.agg [.int .i64 cx, .int .i64 cy, .int .i64 sd, .int .i64 w, .int .i64 h, .ro (.int .i64) pb, .ro (.int .i64) po], .agg [.int .i64 fl, .int .i64 ke, .int .i64 sw, .int .i64 be, .int .i64 we], .agg [.int .i64 ax, .int .i64 ay, .int .i64 vx, .int .i64 vy, .int .i64 sp], .ro (.recd (.cons (.int .i64) (.cons (.int .i64) (.cons (.int .i64) .nil)))) l, .int .i64 m] k = k (rnO (rnB cx cy sd w h pb po fl ke sw be we ax ay vx vy sp l m) (gRL cx cy sd w h pb po fl ke sw be we ax ay vx vy sp l m) (ax, ay, vx, vy, sp)) := by
  refine ⟨m.toNat + 1, 12, fun α k => (gRun_text (m.toNat + 1) 0 α cx cy sd w h pb po fl ke sw be we ax ay vx vy sp l m k).trans ?_⟩
  unfold rnB tckB
  cases hi : iceB cx cy sd w h pb po
  · rfl
  cases hg : graB fl ke sw be we
  · rfl
  cases hm : movB ax ay vx vy sp
  · rfl
  cases hb : brsB l
  · rfl
  cases h1 : decide (0 ≤ m)
  · rfl
  cases h2 : decide (m ≤ 6000)
  · rfl
  have hb' := hb
  unfold brsB at hb'
  rw [Bool.and_eq_true] at hb'
  exact grT_fin cx cy sd w h pb po fl ke sw be we ax ay vx vy sp l m hi hg hm hb'.2 ⟨of_decide_eq_true h1, of_decide_eq_true h2⟩ k
--CON gRun
noncomputable def gRunS : Fsp := fun _ args k => match args with
  | [.agg [.int .i64 cx, .int .i64 cy, .int .i64 sd, .int .i64 w, .int .i64 h, .ro (.int .i64) pb, .ro (.int .i64) po], .agg [.int .i64 fl, .int .i64 ke, .int .i64 sw, .int .i64 be, .int .i64 we], .agg [.int .i64 ax, .int .i64 ay, .int .i64 vx, .int .i64 vy, .int .i64 sp], .ro (.recd (.cons (.int .i64) (.cons (.int .i64) (.cons (.int .i64) .nil)))) l, .int .i64 m] => k (rnO (rnB cx cy sd w h pb po fl ke sw be we ax ay vx vy sp l m) (gRL cx cy sd w h pb po fl ke sw be we ax ay vx vy sp l m) (ax, ay, vx, vy, sp))
  | _ => none
theorem gRunS_ok : FspOk Tryz.prog 14 gRunS := tower_Y fsG6_ok spG_ok ⟨Tryz.func14, fun _ _ => by kernel_rfl⟩ (by intro α args k; unfold gRunS; split <;> rfl) fun args out hSm hEq => by
  unfold gRunS at hEq
  split at hEq
  · rename_i cx cy sd w h pb po fl ke sw be we ax ay vx vy sp l m
    obtain ⟨N, n, e⟩ := gRun_fin cx cy sd w h pb po fl ke sw be we ax ay vx vy sp l m hSm
    exact ⟨N, n, (e AOut some).trans hEq⟩
  · cases hEq
--END
/-! Way. -/
abbrev S7 := Int × List SpI × Int × Int × Int × Int × Int × Unit
noncomputable def gwF {α : Type} (cx cy sd w h : Int) (pb po : List Int) (fl ke sw be we : Int) (l : List BrI) (m : Int) (R : Option α) (x : S7) : Option (LRes S7 α) :=
  bif decide (x.1 < m) then
    bif !(x.2.2.2.2.1 == 0 && (x.2.2.2.2.2.1 == 0 && true)) then
      bif l.all brmB then
        bif rgtB cx cy sd w h pb po fl ke sw be we x.2.2.1 x.2.2.2.1 x.2.2.2.2.1 x.2.2.2.2.2.1 x.2.2.2.2.2.2.1 (strN l x.1) then
          tkStep (slwV cx cy sd w h pb po fl ke sw be we x.2.2.1 x.2.2.2.1) (bdvV cx cy sd w h pb po fl ke sw be we x.2.2.1 x.2.2.2.1) x.2.2.1 x.2.2.2.1 x.2.2.2.2.1 x.2.2.2.2.2.1 x.2.2.2.2.2.2.1 (strN l x.1) (fun a b c d e => if (x.2.1.length + ([(a, b, ())] : List SpI).length) * 16 ≤ room then some (.cont (IntKind.i64.wrap (x.1 + 1), x.2.1 ++ ([(a, b, ())] : List SpI), a, b, c, d, e, ())) else none) (finL R)
        else none
      else none
    else some (.brk 0 (x.1, x.2.1, x.2.2.1, x.2.2.2.1, x.2.2.2.2.1, x.2.2.2.2.2.1, x.2.2.2.2.2.2.1, ()))
  else some (.brk 0 (x.1, x.2.1, x.2.2.1, x.2.2.2.1, x.2.2.2.2.1, x.2.2.2.2.2.1, x.2.2.2.2.2.2.1, ()))
def gwG {α : Type} (e : Int) (L : List SpI) (x : List SpI × Int × Unit) : Option (LRes (List SpI × Int × Unit) α) :=
  bif decide (x.2.1 < (L.length : Int)) then
    if 0 ≤ x.2.1 ∧ x.2.1 < (L.length : Int) then
      if e = 0 then none
      else
        bif x.2.1.tmod e == 0 then
          if (x.1.length + ([((L.getD x.2.1.toNat spD).1, (L.getD x.2.1.toNat spD).2.1, ())] : List SpI).length) * 16 ≤ room then some (.cont (x.1 ++ [((L.getD x.2.1.toNat spD).1, (L.getD x.2.1.toNat spD).2.1, ())], IntKind.i64.wrap (x.2.1 + 1), ()))
          else none
        else bif x.2.1 == IntKind.i64.wrap ((L.length : Int) - 1) then
          if (x.1.length + ([((L.getD x.2.1.toNat spD).1, (L.getD x.2.1.toNat spD).2.1, ())] : List SpI).length) * 16 ≤ room then some (.cont (x.1 ++ [((L.getD x.2.1.toNat spD).1, (L.getD x.2.1.toNat spD).2.1, ())], IntKind.i64.wrap (x.2.1 + 1), ()))
          else none
        else some (.cont (x.1, IntKind.i64.wrap (x.2.1 + 1), ()))
    else none
  else some (.brk 0 (x.1, x.2.1, ()))
abbrev wyErr (e : Int) : AOut := .ret (.tup [.ro (.recd (.cons (.int .i64) (.cons (.int .i64) .nil))) ([] : List SpI), iN e])
def gwKK {α : Type} (N : Nat) (e : Int) (L : List SpI) (K : List SpI → Option α) : Option α :=
  afterL (iterL N (gwG e L) ([], 0, ())) fun id y => if id = 0 then K y.1 else none
noncomputable def gwTT {α : Type} (N : Nat) (cx cy sd w h : Int) (pb po : List Int) (fl ke sw be we : Int) (ax ay vx vy sp : Int) (l : List BrI) (m e : Int) (R : Option α) (K : List SpI → Option α) : Option α :=
  afterL (iterL N (gwF cx cy sd w h pb po fl ke sw be we l m R) (0, [(ax, ay, ())], ax, ay, vx, vy, sp, ())) fun id y => if id = 0 then gwKK N e y.2.1 K else none
--AT fsG6 spG twY
set_option maxRecDepth 100000 in
theorem gWay_text (N n0 : Nat) (α : Type) (cx cy sd w h : Int) (pb po : List Int) (fl ke sw be we : Int) (ax ay vx vy sp : Int) (l : List BrI) (m e : Int) (k : AOut → Option α) : evFn real tab ((twY fsG6 spG).env real tab N (n0 + 12)) N Tryz.f29 α [.agg [.int .i64 cx, .int .i64 cy, .int .i64 sd, .int .i64 w, .int .i64 h, .ro (.int .i64) pb, .ro (.int .i64) po], .agg [.int .i64 fl, .int .i64 ke, .int .i64 sw, .int .i64 be, .int .i64 we], .agg [.int .i64 ax, .int .i64 ay, .int .i64 vx, .int .i64 vy, .int .i64 sp], .ro (.recd (.cons (.int .i64) (.cons (.int .i64) (.cons (.int .i64) .nil)))) l, .int .i64 m, .int .i64 e] k =
    bif !(iceB cx cy sd w h pb po && graB fl ke sw be we && movB ax ay vx vy sp && brsB l) then k (wyErr 2)
    else bif decide (0 ≤ m) then bif !decide (m ≤ 6000) then k (wyErr 2) else bif decide (1 ≤ e) then bif !decide (e ≤ 6000) then k (wyErr 2) else gwTT N cx cy sd w h pb po fl ke sw be we ax ay vx vy sp l m e (k (wyErr 4)) (fun L => k (.ret (.tup [.ro (.recd (.cons (.int .i64) (.cons (.int .i64) .nil))) L, iN 0]))) else k (wyErr 2) else k (wyErr 2) := by kernel_rfl
theorem gwKK_fin {α : Type} {e : Int} (he : 1 ≤ e) {L : List SpI} (hL : L.length ≤ 10000) (N : Nat) (hN : L.length < N) (K : List SpI → Option α) : gwKK N e L K = K (wayL e L L.length) := by
  unfold gwKK
  refine (count_loop (fun i : Nat => (wayL e L i, (i : Int), ())) L.length (b := 0) (y := (wayL e L L.length, (L.length : Int), ())) (fun i hi => ?_) ?_ hN).trans ?_
  · unfold gwG
    have hl := wayL_len e L i
    simp only [lt_len hi, cond_true]
    rw [if_pos (in_len hi), if_neg (by omega), i64_in ((i : Int) + 1) (by omega), wayL_next, Int.toNat_natCast]
    unfold wyP
    have hr : ((wayL e L i).length + ([((L.getD i spD).1, (L.getD i spD).2.1, ())] : List SpI).length) * 16 ≤ room := by simp only [List.length_singleton, room]; omega
    rw [if_pos hr]
    cases (i : Int).tmod e == 0
    · cases (i : Int) == IntKind.i64.wrap ((L.length : Int) - 1) <;> rfl
    · rfl
  · unfold gwG
    simp only [not_lt_len, cond_false]
  · rfl
def st7 (i : Nat) (a : List SpI) (s : St5) : S7 := ((i : Int), a, s.1, s.2.1, s.2.2.1, s.2.2.2.1, s.2.2.2.2, ())
theorem gwTT_fin {α : Type} (cx cy sd w h : Int) (pb po : List Int) (fl ke sw be we : Int) (ax ay vx vy sp : Int) (l : List BrI) (m e : Int) (hi : iceB cx cy sd w h pb po = true) (hg : graB fl ke sw be we = true) (hm : movB ax ay vx vy sp = true) (hl : l.all brmB = true) (h0 : 0 ≤ m ∧ m ≤ 6000) (he : 1 ≤ e) (N : Nat) (hN : m.toNat + 2 ≤ N) (R : Option α) (K : List SpI → Option α) : gwTT N cx cy sd w h pb po fl ke sw be we ax ay vx vy sp l m e R K = match gRL cx cy sd w h pb po fl ke sw be we ax ay vx vy sp l m with | none => R | some L => K (wayL e (((ax, ay, vx, vy, sp) :: L).map sp5) (L.length + 1)) := by
  unfold gwTT
  refine (run_loop (S := St5) (A := List SpI) (gnx cx cy sd w h pb po fl ke sw be we l) z5 st7 (fun a s => a ++ [sp5 s]) R (b := 0) (M := m.toNat) (fun i a s => mov5 s = true ∧ a.length = i + 1) (fun i a s hM hv hz => ?_) (fun i a s hM hv hz => ?_) (fun a s hv => ?_) m.toNat 0 [(ax, ay, ())] (ax, ay, vx, vy, sp) (by omega) ⟨hm, rfl⟩ N (by omega)).trans ?_
  · have e1 : decide (((i : Nat) : Int) < m) = true := decide_eq_true (by omega)
    have e2 : IntKind.i64.wrap ((i : Int) + 1) = ((i + 1 : Nat) : Int) := by rw [i64_in _ (by omega)]; rfl
    have er : (a.length + 1) * 16 ≤ room := by have := hv.2; simp only [room]; omega
    have e : gwF cx cy sd w h pb po fl ke sw be we l m R (st7 i a s) = match gnx cx cy sd w h pb po fl ke sw be we l i s with | none => finL R | some s' => some (.cont (st7 (i + 1) (a ++ [sp5 s']) s')) := by
      unfold gwF st7
      simp only [e1, cond_true]
      rw [show (!(s.2.2.1 == 0 && (s.2.2.2.1 == 0 && true))) = true from congrArg (!·) hz, hl, rgt5 cx cy sd w h pb po fl ke sw be we l i s hi hg hl hv.1, cond_true, cond_true, cond_true, e2]
      simp only [List.length_singleton, if_pos er]
      exact gnx_step cx cy sd w h pb po fl ke sw be we l i s _ _
    rw [e]
    refine ⟨fun hn => by rw [hn], fun s' hn => ⟨by rw [hn], gnx_mov cx cy sd w h pb po fl ke sw be we l i s s' hv.1 hn, by rw [List.length_append, List.length_singleton, hv.2]⟩⟩
  · have e1 : decide (((i : Nat) : Int) < m) = true := decide_eq_true (by omega)
    unfold gwF st7
    simp only [e1, cond_true]
    rw [show (!(s.2.2.1 == 0 && (s.2.2.2.1 == 0 && true))) = false from congrArg (!·) hz]
    rfl
  · have e1 : decide (((m.toNat : Nat) : Int) < m) = false := decide_eq_false (by omega)
    unfold gwF st7
    simp only [e1, cond_false]
  · unfold gRL
    cases hr : runL (gnx cx cy sd w h pb po fl ke sw be we l) z5 m.toNat 0 (ax, ay, vx, vy, sp) with
    | none => rfl
    | some L =>
      have hL := runL_len _ _ _ _ _ _ hr
      have ef : L.foldl (fun a s => a ++ [sp5 s]) [(ax, ay, ())] = ((ax, ay, vx, vy, sp) :: L).map sp5 := by rw [foldl_snoc]; rfl
      simp only [st7, ef, if_pos]
      rw [gwKK_fin he (by simp only [List.length_map, List.length_cons]; omega) _ (by simp only [List.length_map, List.length_cons]; omega)]
      simp only [List.length_map, List.length_cons]
--FIN gWay | besom/glide.Way | $ICB $GB $MB (l : List BrI) (m e : Int) | $ICE, $GR, $MO, .ro $BSH l, .int .i64 m, .int .i64 e | wyO (rnB $ICV $GV $MV l m && wyB e) (gRL $ICV $GV $MV l m) (ax, ay, vx, vy, sp) e
theorem gWay_fin (cx cy sd w h : Int) (pb po : List Int) (fl ke sw be we : Int) (ax ay vx vy sp : Int) (l : List BrI) (m e : Int) (hs : ∀ qSm ∈ ([.agg [.int .i64 cx, .int .i64 cy, .int .i64 sd, .int .i64 w, .int .i64 h, .ro (.int .i64) pb, .ro (.int .i64) po], .agg [.int .i64 fl, .int .i64 ke, .int .i64 sw, .int .i64 be, .int .i64 we], .agg [.int .i64 ax, .int .i64 ay, .int .i64 vx, .int .i64 vy, .int .i64 sp], .ro (.recd (.cons (.int .i64) (.cons (.int .i64) (.cons (.int .i64) .nil)))) l, .int .i64 m, .int .i64 e] : List AVal), Sm qSm) : ∃ N n, ∀ α (k : AOut → Option α), evFn real tab ((twY fsG6 spG).env real tab N n) N Tryz.f29 α [.agg [.int .i64 cx, .int .i64 cy, .int .i64 sd, .int .i64 w, .int .i64 h, .ro (.int .i64) pb, .ro (.int .i64) po], .agg [.int .i64 fl, .int .i64 ke, .int .i64 sw, .int .i64 be, .int .i64 we], .agg [.int .i64 ax, .int .i64 ay, .int .i64 vx, .int .i64 vy, .int .i64 sp], .ro (.recd (.cons (.int .i64) (.cons (.int .i64) (.cons (.int .i64) .nil)))) l, .int .i64 m, .int .i64 e] k = k (wyO (rnB cx cy sd w h pb po fl ke sw be we ax ay vx vy sp l m && wyB e) (gRL cx cy sd w h pb po fl ke sw be we ax ay vx vy sp l m) (ax, ay, vx, vy, sp) e) := by
  refine ⟨m.toNat + 2, 12, fun α k => (gWay_text (m.toNat + 2) 0 α cx cy sd w h pb po fl ke sw be we ax ay vx vy sp l m e k).trans ?_⟩
  unfold rnB tckB wyB
  cases hi : iceB cx cy sd w h pb po
  · rfl
  cases hg : graB fl ke sw be we
  · rfl
  cases hm : movB ax ay vx vy sp
  · rfl
  cases hb : brsB l
  · rfl
  cases h1 : decide (0 ≤ m)
  · rfl
  cases h2 : decide (m ≤ 6000)
  · rfl
  cases h3 : decide (1 ≤ e)
  · rfl
  cases h4 : decide (e ≤ 6000)
  · rfl
  have hb' := hb
  unfold brsB at hb'
  rw [Bool.and_eq_true] at hb'
  refine (gwTT_fin cx cy sd w h pb po fl ke sw be we ax ay vx vy sp l m e hi hg hm hb'.2 ⟨of_decide_eq_true h1, of_decide_eq_true h2⟩ (of_decide_eq_true h3) _ (Nat.le_refl _) _ _).trans ?_
  cases gRL cx cy sd w h pb po fl ke sw be we ax ay vx vy sp l m <;> rfl
--CON gWay
noncomputable def gWayS : Fsp := fun _ args k => match args with
  | [.agg [.int .i64 cx, .int .i64 cy, .int .i64 sd, .int .i64 w, .int .i64 h, .ro (.int .i64) pb, .ro (.int .i64) po], .agg [.int .i64 fl, .int .i64 ke, .int .i64 sw, .int .i64 be, .int .i64 we], .agg [.int .i64 ax, .int .i64 ay, .int .i64 vx, .int .i64 vy, .int .i64 sp], .ro (.recd (.cons (.int .i64) (.cons (.int .i64) (.cons (.int .i64) .nil)))) l, .int .i64 m, .int .i64 e] => k (wyO (rnB cx cy sd w h pb po fl ke sw be we ax ay vx vy sp l m && wyB e) (gRL cx cy sd w h pb po fl ke sw be we ax ay vx vy sp l m) (ax, ay, vx, vy, sp) e)
  | _ => none
theorem gWayS_ok : FspOk Tryz.prog 29 gWayS := tower_Y fsG6_ok spG_ok ⟨Tryz.func29, fun _ _ => by kernel_rfl⟩ (by intro α args k; unfold gWayS; split <;> rfl) fun args out hSm hEq => by
  unfold gWayS at hEq
  split at hEq
  · rename_i cx cy sd w h pb po fl ke sw be we ax ay vx vy sp l m e
    obtain ⟨N, n, e⟩ := gWay_fin cx cy sd w h pb po fl ke sw be we ax ay vx vy sp l m e hSm
    exact ⟨N, n, (e AOut some).trans hEq⟩
  · cases hEq
--END
--FS fsG7 | fsG6 | gRun;gWay
noncomputable def fsG7 : FuncId → Option Fsp := fun g =>
  if g = 14 then some gRunS else
  if g = 29 then some gWayS else
  fsG6 g
theorem fsG7_ok : FsOk fsG7 :=
  fs_cons gRunS_ok <|
  fs_cons gWayS_ok <|
  fsG6_ok
--END
end Go.Proofs.YtgpljldfbhkdlaaGreat

/- The reference: Run and Way (layer 4). -/
namespace Go.Proofs.YtgpljldfbhkdlaaGreat
open Go.RowKit

def mvD : MvI := ((0, 0, ()), (0, 0, ()), 0, ())
theorem map_last {S B : Type} (f : S → B) (d : B) : ∀ (l : List S) (s : S), ((s :: l).map f).getD l.length d = f (lastD s l)
  | [], _ => rfl
  | x :: l, s => by
    have := map_last f d l x
    rw [List.map_cons] at this ⊢
    exact this
theorem map_spot (X : List St5) : ∀ i : Nat, ((X.map toMv).getD i mvD).1 = (X.map sp5).getD i spD := by
  induction X with
  | nil => intro i; rfl
  | cons s X ih =>
    intro i
    cases i with
    | zero => rfl
    | succ i => exact ih i
noncomputable def rRK {α : Type} (O : Option (List St5)) (L : List MvI) (k : AOut → Option α) : Option α :=
  bif rnE O != 0 then k (.ret (.tup [.agg [iN 0, iN 0, iN 0, iN 0, iN 0], iN 0, iN (rnE O)]))
  else if 0 ≤ IntKind.i64.wrap ((L.length : Int) - 1) ∧ IntKind.i64.wrap ((L.length : Int) - 1) < (L.length : Int) then
    k (.ret (.tup [.agg [iN (L.getD (IntKind.i64.wrap ((L.length : Int) - 1)).toNat mvD).1.1, iN (L.getD (IntKind.i64.wrap ((L.length : Int) - 1)).toNat mvD).1.2.1, iN (L.getD (IntKind.i64.wrap ((L.length : Int) - 1)).toNat mvD).2.1.1, iN (L.getD (IntKind.i64.wrap ((L.length : Int) - 1)).toNat mvD).2.1.2.1, iN (L.getD (IntKind.i64.wrap ((L.length : Int) - 1)).toNat mvD).2.2.1], iN (IntKind.i64.wrap ((L.length : Int) - 1)), iN 0]))
  else none
theorem rRK_fin {α : Type} (O : Option (List St5)) (s : St5) (hO : ∀ l, O = some l → l.length ≤ 6000) (k : AOut → Option α) : rRK O (allM O s) k = k (rnO true O s) := by
  cases O with
  | none => rfl
  | some l =>
    have hl := hO l rfl
    have e : IntKind.i64.wrap (((allM (some l) s).length : Int) - 1) = (l.length : Int) := by
      unfold allM
      rw [List.length_map, List.length_cons, i64_in _ (by omega)]; omega
    have h2 : (l.length : Int) < ((allM (some l) s).length : Int) := by
      unfold allM
      rw [List.length_map, List.length_cons]; omega
    unfold rRK
    rw [e, if_pos ⟨by omega, h2⟩, Int.toNat_natCast]
    unfold allM
    rw [map_last toMv mvD l s]
    rfl
noncomputable def rWG {α : Type} (e : Int) (L : List MvI) (x : List SpI × Int × Unit) : Option (LRes (List SpI × Int × Unit) α) :=
  bif decide (x.2.1 < (L.length : Int)) then
    if e = 0 then none
    else bif x.2.1.tmod e == 0 then
      if 0 ≤ x.2.1 ∧ x.2.1 < (L.length : Int) then
        if (x.1.length + ([((L.getD x.2.1.toNat mvD).1.1, (L.getD x.2.1.toNat mvD).1.2.1, ())] : List SpI).length) * 16 ≤ room then some (.cont (x.1 ++ [((L.getD x.2.1.toNat mvD).1.1, (L.getD x.2.1.toNat mvD).1.2.1, ())], IntKind.i64.wrap (x.2.1 + 1), ())) else none
      else none
    else bif x.2.1 == IntKind.i64.wrap ((L.length : Int) - 1) then
      if 0 ≤ x.2.1 ∧ x.2.1 < (L.length : Int) then
        if (x.1.length + ([((L.getD x.2.1.toNat mvD).1.1, (L.getD x.2.1.toNat mvD).1.2.1, ())] : List SpI).length) * 16 ≤ room then some (.cont (x.1 ++ [((L.getD x.2.1.toNat mvD).1.1, (L.getD x.2.1.toNat mvD).1.2.1, ())], IntKind.i64.wrap (x.2.1 + 1), ())) else none
      else none
    else some (.cont (x.1, IntKind.i64.wrap (x.2.1 + 1), ()))
  else some (.brk 0 (x.1, x.2.1, ()))
noncomputable def rWK {α : Type} (N : Nat) (O : Option (List St5)) (L : List MvI) (e : Int) (k : AOut → Option α) : Option α :=
  bif rnE O != 0 then k (wyErr (rnE O))
  else afterL (iterL N (rWG e L) ([], 0, ())) fun id y => if id = 0 then k (.ret (.tup [.ro (.recd (.cons (.int .i64) (.cons (.int .i64) .nil))) y.1, iN 0])) else none
theorem rWK_fin {α : Type} (O : Option (List St5)) (s : St5) (hO : ∀ l, O = some l → l.length ≤ 6000) {e : Int} (he : 1 ≤ e) (k : AOut → Option α) : rWK 6002 O (allM O s) e k = k (wyO true O s e) := by
  cases O with
  | none => rfl
  | some l =>
    have hl := hO l rfl
    unfold rWK
    rw [show (rnE (some l) != 0) = false from rfl, cond_false]
    have hlen : (allM (some l) s).length = l.length + 1 := by unfold allM; rw [List.length_map, List.length_cons]
    have hlen2 : ((s :: l).map sp5).length = l.length + 1 := by rw [List.length_map, List.length_cons]
    have hsp : ∀ i : Nat, ((allM (some l) s).getD i mvD).1 = ((s :: l).map sp5).getD i spD := fun i => map_spot (s :: l) i
    show _ = k (.ret (.tup [.ro (.recd (.cons (.int .i64) (.cons (.int .i64) .nil))) (wayL e ((s :: l).map sp5) (l.length + 1) : List SpI), iN 0]))
    generalize allM (some l) s = LM at *
    generalize (s :: l).map sp5 = LS at *
    refine (count_loop (fun i : Nat => (wayL e LS i, (i : Int), ())) LM.length (b := 0) (y := (wayL e LS LM.length, (LM.length : Int), ())) (fun i hi => ?_) ?_ (by omega)).trans ?_
    · unfold rWG
      have hll := wayL_len e LS i
      simp only [lt_len hi, cond_true]
      rw [if_neg (by omega), if_pos (in_len hi), i64_in ((i : Int) + 1) (by omega), wayL_next, Int.toNat_natCast, hsp i]
      unfold wyP
      have hr : ((wayL e LS i).length + ([((LS.getD i spD).1, (LS.getD i spD).2.1, ())] : List SpI).length) * 16 ≤ room := by simp only [List.length_singleton, room]; omega
      rw [if_pos hr, hlen, hlen2]
      cases (i : Int).tmod e == 0
      · cases (i : Int) == IntKind.i64.wrap (((l.length + 1 : Nat) : Int) - 1) <;> rfl
      · rfl
    · unfold rWG
      simp only [not_lt_len, cond_false]
    · rw [hlen]; rfl
--AT fnRd spL twY
set_option maxRecDepth 100000 in
theorem rRun_text (N n0 : Nat) (α : Type) (cx cy sd w h : Int) (pb po : List Int) (fl ke sw be we : Int) (ax ay vx vy sp : Int) (l : List BrI) (m : Int) (k : AOut → Option α) : evFn real tab ((twY fnRd spL).env real tab N (n0 + 8)) N Tryz.f28 α [.agg [.int .i64 cx, .int .i64 cy, .int .i64 sd, .int .i64 w, .int .i64 h, .ro (.int .i64) pb, .ro (.int .i64) po], .agg [.int .i64 fl, .int .i64 ke, .int .i64 sw, .int .i64 be, .int .i64 we], .agg [.int .i64 ax, .int .i64 ay, .int .i64 vx, .int .i64 vy, .int .i64 sp], .ro (.recd (.cons (.int .i64) (.cons (.int .i64) (.cons (.int .i64) .nil)))) l, .int .i64 m] k =
    bif iceB cx cy sd w h pb po then bif graB fl ke sw be we then bif movB ax ay vx vy sp then bif !brsB l then k (rnErr 2) else bif decide (0 ≤ m) then bif !decide (m ≤ 6000) then k (rnErr 2)
      else bif rnB cx cy sd w h pb po fl ke sw be we ax ay vx vy sp l m then rRK (gRL cx cy sd w h pb po fl ke sw be we ax ay vx vy sp l m) (allM (gRL cx cy sd w h pb po fl ke sw be we ax ay vx vy sp l m) (ax, ay, vx, vy, sp)) k else none
    else k (rnErr 2) else k (rnErr 2) else k (rnErr 2) else k (rnErr 2) := by kernel_rfl
set_option maxRecDepth 100000 in
theorem rWay_text (N n0 : Nat) (α : Type) (cx cy sd w h : Int) (pb po : List Int) (fl ke sw be we : Int) (ax ay vx vy sp : Int) (l : List BrI) (m e : Int) (k : AOut → Option α) : evFn real tab ((twY fnRd spL).env real tab N (n0 + 8)) N Tryz.f30 α [.agg [.int .i64 cx, .int .i64 cy, .int .i64 sd, .int .i64 w, .int .i64 h, .ro (.int .i64) pb, .ro (.int .i64) po], .agg [.int .i64 fl, .int .i64 ke, .int .i64 sw, .int .i64 be, .int .i64 we], .agg [.int .i64 ax, .int .i64 ay, .int .i64 vx, .int .i64 vy, .int .i64 sp], .ro (.recd (.cons (.int .i64) (.cons (.int .i64) (.cons (.int .i64) .nil)))) l, .int .i64 m, .int .i64 e] k =
    bif iceB cx cy sd w h pb po then bif graB fl ke sw be we then bif movB ax ay vx vy sp then bif !brsB l then k (wyErr 2) else bif decide (0 ≤ m) then bif !decide (m ≤ 6000) then k (wyErr 2)
      else bif decide (1 ≤ e) then bif !decide (e ≤ 6000) then k (wyErr 2)
      else bif rnB cx cy sd w h pb po fl ke sw be we ax ay vx vy sp l m then rWK N (gRL cx cy sd w h pb po fl ke sw be we ax ay vx vy sp l m) (allM (gRL cx cy sd w h pb po fl ke sw be we ax ay vx vy sp l m) (ax, ay, vx, vy, sp)) e k else none
    else k (wyErr 2) else k (wyErr 2) else k (wyErr 2) else k (wyErr 2) else k (wyErr 2) := by kernel_rfl
theorem gRL_len (cx cy sd w h : Int) (pb po : List Int) (fl ke sw be we : Int) (ax ay vx vy sp : Int) (l : List BrI) {m : Int} (hm : 0 ≤ m ∧ m ≤ 6000) : ∀ L, gRL cx cy sd w h pb po fl ke sw be we ax ay vx vy sp l m = some L → L.length ≤ 6000 := fun L hL => by
  have := runL_len _ _ _ _ _ _ hL
  omega
--FIN rRun | besom/besomref04.Run | $ICB $GB $MB (l : List BrI) (m : Int) | $ICE, $GR, $MO, .ro $BSH l, .int .i64 m | rnO (rnB $ICV $GV $MV l m) (gRL $ICV $GV $MV l m) (ax, ay, vx, vy, sp)
theorem rRun_fin (cx cy sd w h : Int) (pb po : List Int) (fl ke sw be we : Int) (ax ay vx vy sp : Int) (l : List BrI) (m : Int) (hs : ∀ qSm ∈ ([.agg [.int .i64 cx, .int .i64 cy, .int .i64 sd, .int .i64 w, .int .i64 h, .ro (.int .i64) pb, .ro (.int .i64) po], .agg [.int .i64 fl, .int .i64 ke, .int .i64 sw, .int .i64 be, .int .i64 we], .agg [.int .i64 ax, .int .i64 ay, .int .i64 vx, .int .i64 vy, .int .i64 sp], .ro (.recd (.cons (.int .i64) (.cons (.int .i64) (.cons (.int .i64) .nil)))) l, .int .i64 m] : List AVal), Sm qSm) : ∃ N n, ∀ α (k : AOut → Option α), evFn real tab ((twY fnRd spL).env real tab N n) N Tryz.f28 α [.agg [.int .i64 cx, .int .i64 cy, .int .i64 sd, .int .i64 w, .int .i64 h, .ro (.int .i64) pb, .ro (.int .i64) po], .agg [.int .i64 fl, .int .i64 ke, .int .i64 sw, .int .i64 be, .int .i64 we], .agg [.int .i64 ax, .int .i64 ay, .int .i64 vx, .int .i64 vy, .int .i64 sp], .ro (.recd (.cons (.int .i64) (.cons (.int .i64) (.cons (.int .i64) .nil)))) l, .int .i64 m] k = k (rnO (rnB cx cy sd w h pb po fl ke sw be we ax ay vx vy sp l m) (gRL cx cy sd w h pb po fl ke sw be we ax ay vx vy sp l m) (ax, ay, vx, vy, sp)) := by
  refine ⟨8, 8, fun α k => (rRun_text 8 0 α cx cy sd w h pb po fl ke sw be we ax ay vx vy sp l m k).trans ?_⟩
  have hRK := fun hm => rRK_fin (gRL cx cy sd w h pb po fl ke sw be we ax ay vx vy sp l m) (ax, ay, vx, vy, sp) (gRL_len cx cy sd w h pb po fl ke sw be we ax ay vx vy sp l (m := m) hm) k
  unfold rnB tckB
  cases hi : iceB cx cy sd w h pb po
  · rfl
  cases hg : graB fl ke sw be we
  · rfl
  cases hm : movB ax ay vx vy sp
  · rfl
  cases hb : brsB l
  · rfl
  cases h1 : decide (0 ≤ m)
  · rfl
  cases h2 : decide (m ≤ 6000)
  · rfl
  exact hRK ⟨of_decide_eq_true h1, of_decide_eq_true h2⟩
--CON rRun
noncomputable def rRunS : Fsp := fun _ args k => match args with
  | [.agg [.int .i64 cx, .int .i64 cy, .int .i64 sd, .int .i64 w, .int .i64 h, .ro (.int .i64) pb, .ro (.int .i64) po], .agg [.int .i64 fl, .int .i64 ke, .int .i64 sw, .int .i64 be, .int .i64 we], .agg [.int .i64 ax, .int .i64 ay, .int .i64 vx, .int .i64 vy, .int .i64 sp], .ro (.recd (.cons (.int .i64) (.cons (.int .i64) (.cons (.int .i64) .nil)))) l, .int .i64 m] => k (rnO (rnB cx cy sd w h pb po fl ke sw be we ax ay vx vy sp l m) (gRL cx cy sd w h pb po fl ke sw be we ax ay vx vy sp l m) (ax, ay, vx, vy, sp))
  | _ => none
theorem rRunS_ok : FspOk Tryz.prog 28 rRunS := tower_Y fnRd_ok spL_ok ⟨Tryz.func28, fun _ _ => by kernel_rfl⟩ (by intro α args k; unfold rRunS; split <;> rfl) fun args out hSm hEq => by
  unfold rRunS at hEq
  split at hEq
  · rename_i cx cy sd w h pb po fl ke sw be we ax ay vx vy sp l m
    obtain ⟨N, n, e⟩ := rRun_fin cx cy sd w h pb po fl ke sw be we ax ay vx vy sp l m hSm
    exact ⟨N, n, (e AOut some).trans hEq⟩
  · cases hEq
--END
--FIN rWay | besom/besomref04.Way | $ICB $GB $MB (l : List BrI) (m e : Int) | $ICE, $GR, $MO, .ro $BSH l, .int .i64 m, .int .i64 e | wyO (rnB $ICV $GV $MV l m && wyB e) (gRL $ICV $GV $MV l m) (ax, ay, vx, vy, sp) e
theorem rWay_fin (cx cy sd w h : Int) (pb po : List Int) (fl ke sw be we : Int) (ax ay vx vy sp : Int) (l : List BrI) (m e : Int) (hs : ∀ qSm ∈ ([.agg [.int .i64 cx, .int .i64 cy, .int .i64 sd, .int .i64 w, .int .i64 h, .ro (.int .i64) pb, .ro (.int .i64) po], .agg [.int .i64 fl, .int .i64 ke, .int .i64 sw, .int .i64 be, .int .i64 we], .agg [.int .i64 ax, .int .i64 ay, .int .i64 vx, .int .i64 vy, .int .i64 sp], .ro (.recd (.cons (.int .i64) (.cons (.int .i64) (.cons (.int .i64) .nil)))) l, .int .i64 m, .int .i64 e] : List AVal), Sm qSm) : ∃ N n, ∀ α (k : AOut → Option α), evFn real tab ((twY fnRd spL).env real tab N n) N Tryz.f30 α [.agg [.int .i64 cx, .int .i64 cy, .int .i64 sd, .int .i64 w, .int .i64 h, .ro (.int .i64) pb, .ro (.int .i64) po], .agg [.int .i64 fl, .int .i64 ke, .int .i64 sw, .int .i64 be, .int .i64 we], .agg [.int .i64 ax, .int .i64 ay, .int .i64 vx, .int .i64 vy, .int .i64 sp], .ro (.recd (.cons (.int .i64) (.cons (.int .i64) (.cons (.int .i64) .nil)))) l, .int .i64 m, .int .i64 e] k = k (wyO (rnB cx cy sd w h pb po fl ke sw be we ax ay vx vy sp l m && wyB e) (gRL cx cy sd w h pb po fl ke sw be we ax ay vx vy sp l m) (ax, ay, vx, vy, sp) e) := by
  refine ⟨6002, 8, fun α k => (rWay_text 6002 0 α cx cy sd w h pb po fl ke sw be we ax ay vx vy sp l m e k).trans ?_⟩
  have hRK := fun hm he => rWK_fin (gRL cx cy sd w h pb po fl ke sw be we ax ay vx vy sp l m) (ax, ay, vx, vy, sp) (gRL_len cx cy sd w h pb po fl ke sw be we ax ay vx vy sp l (m := m) hm) (e := e) he k
  unfold rnB tckB wyB
  cases hi : iceB cx cy sd w h pb po
  · rfl
  cases hg : graB fl ke sw be we
  · rfl
  cases hm : movB ax ay vx vy sp
  · rfl
  cases hb : brsB l
  · rfl
  cases h1 : decide (0 ≤ m)
  · rfl
  cases h2 : decide (m ≤ 6000)
  · rfl
  cases h3 : decide (1 ≤ e)
  · rfl
  cases h4 : decide (e ≤ 6000)
  · rfl
  exact hRK ⟨of_decide_eq_true h1, of_decide_eq_true h2⟩ (of_decide_eq_true h3)
--CON rWay
noncomputable def rWayS : Fsp := fun _ args k => match args with
  | [.agg [.int .i64 cx, .int .i64 cy, .int .i64 sd, .int .i64 w, .int .i64 h, .ro (.int .i64) pb, .ro (.int .i64) po], .agg [.int .i64 fl, .int .i64 ke, .int .i64 sw, .int .i64 be, .int .i64 we], .agg [.int .i64 ax, .int .i64 ay, .int .i64 vx, .int .i64 vy, .int .i64 sp], .ro (.recd (.cons (.int .i64) (.cons (.int .i64) (.cons (.int .i64) .nil)))) l, .int .i64 m, .int .i64 e] => k (wyO (rnB cx cy sd w h pb po fl ke sw be we ax ay vx vy sp l m && wyB e) (gRL cx cy sd w h pb po fl ke sw be we ax ay vx vy sp l m) (ax, ay, vx, vy, sp) e)
  | _ => none
theorem rWayS_ok : FspOk Tryz.prog 30 rWayS := tower_Y fnRd_ok spL_ok ⟨Tryz.func30, fun _ _ => by kernel_rfl⟩ (by intro α args k; unfold rWayS; split <;> rfl) fun args out hSm hEq => by
  unfold rWayS at hEq
  split at hEq
  · rename_i cx cy sd w h pb po fl ke sw be we ax ay vx vy sp l m e
    obtain ⟨N, n, e⟩ := rWay_fin cx cy sd w h pb po fl ke sw be we ax ay vx vy sp l m e hSm
    exact ⟨N, n, (e AOut some).trans hEq⟩
  · cases hEq
--END
end Go.Proofs.YtgpljldfbhkdlaaGreat

/- The laws of package ice: alive. -/
namespace Go.Proofs.YtgpljldfbhkdlaaGreat
open Go.RowKit

/-! Roots, open to evaluation. -/
def rtUpC (a how : Int) : Bool := if how = 2 then !(rtC a * rtC a == a) else if how = 3 then decide ((2 * rtC a + 1) * (2 * rtC a + 1) ≤ 4 * a) else false
def rtNC (a how : Int) : Int := rtC a + (bif rtUpC a how then 1 else 0)
def rootVC (a how : Int) : Int := bif rootB a how then (bif ngB a then 0 else fxV false (rtNC (a * 65536) how)) else 0
def rootEC (a how : Int) : Int := bif rootB a how then (bif ngB a then 11 else fxE (rtNC (a * 65536) how)) else 2
def frootCS : Fsp := fun _ args k => match args with
  | [.int .i64 x, .int .i64 how] => k (i2 (rootVC x how) (rootEC x how))
  | _ => none
--AT fsIt spL twY
abbrev pondI : AVal := .agg [iN 0, iN 0, iN 10, iN 2, iN 3, .ro (.int .i64) ([100, 200, 300, 400, 500, 600] : List Int), .ro (.int .i64) ([0, 0, 0, 0, 0, 500] : List Int)]
abbrev pondG : AVal := .agg [iN 1000, iN 500, iN 200, iN 100, iN 150]
--CON pond
noncomputable def pondS : Fsp := fun _ args k => match args with
  | [] => k (.ret (.tup [pondI, pondG]))
  | _ => none
--END
--FS fsIa | fsIt | frootC=besom/fixed.Root;pond
noncomputable def fsIa : FuncId → Option Fsp := fun g =>
  fsIt g
theorem fsIa_ok : FsOk fsIa :=
  fsIt_ok
--CON ialive
noncomputable def ialiveS : Fsp := fun _ args k => match args with
  | [] => k (b1 true)
  | _ => none
--END
--FS fsIb | fsIt | ialive
noncomputable def fsIb : FuncId → Option Fsp := fun g =>
  fsIt g
theorem fsIb_ok : FsOk fsIb :=
  fsIt_ok
--END
--AT fsIb spL twY
--TEXT igreat | twY fsIb spL | 8 | besom/besomref03.Great | $ICB (m : Int) | $ICE, $I{m}
--KEY 81c0e39c97
set_option maxRecDepth 100000 in
theorem igreat_text (N n0 : Nat) (α : Type) (cx cy sd w h : Int) (pb po : List Int) (m : Int) (k : AOut → Option α) : evFn real tab ((twY fsIb spL).env real tab N (n0 + 8)) N Tryz.f15 α [.agg [.int .i64 cx, .int .i64 cy, .int .i64 sd, .int .i64 w, .int .i64 h, .ro (.int .i64) pb, .ro (.int .i64) po], .int .i64 m] k =
  bif decide ((↑pb.length : Int) > m) then k (AOut.ret (AVal.bool true))
  else k (AOut.ret (AVal.bool (decide ((↑po.length : Int) > m)))) := by kernel_rfl
--END
end Go.Proofs.YtgpljldfbhkdlaaGreat

/- GlideNames: the examples of the chapter. -/
namespace Go.Proofs.YtgpljldfbhkdlaaGreat
open Go.RowKit

/-! Lengths and units, open to evaluation. -/
def lenVG (x y how : Int) : Int := bif lenB x y how then fxV false (rtNC (sq2 x y) how) else 0
def lenEG (x y how : Int) : Int := bif lenB x y how then fxE (rtNC (sq2 x y) how) else 2
def flenG : Fsp := fun _ args k => match args with
  | [.agg [.int .i64 x, .int .i64 y], .int .i64 how] => k (i2 (lenVG x y how) (lenEG x y how))
  | _ => none
theorem flenG_ok : FspOk Tryz.prog 19 flenG := by
  have e : flenG = flenS := by
    unfold flenG flenS lenVG lenEG rtNC rtUpC lenV lenE rtN rtUp
    rw [rt_C]
    rfl
  rw [e]; exact flenS_ok
def uniVG (x y c : Int) : Int := bif uniB x y then (bif sq2 x y == 0 then 0 else sg (ngB c) (shrC (ab c) (sq2 x y))) else 0
def funiG : Fsp := fun _ args k => match args with
  | [.agg [.int .i64 x, .int .i64 y]] => k (s2 (uniVG x y x) (uniVG x y y) (uniE x y))
  | _ => none
theorem funiG_ok : FspOk Tryz.prog 92 funiG := by
  have h : ∀ x y c, uniV x y c = uniVG x y c := fun x y c => by unfold uniV uniVG; rw [shr_C]
  have e : funiG = uniS := by
    unfold funiG uniS
    simp only [h]
    rfl
  rw [e]; exact uniS_ok
noncomputable def fsGn : FuncId → Option Fsp := fun g =>
  if g = 19 then some flenG else
  if g = 92 then some funiG else
  if g = 91 then some gmusSS else
  if g = 87 then some gmusFS else
  fsI11 g
theorem fsGn_ok : FsOk fsGn :=
  fs_cons flenG_ok <|
  fs_cons funiG_ok <|
  fs_cons gmusSS_ok <|
  fs_cons gmusFS_ok <|
  fsI11_ok
--AT fsGn spG twY
/-- A contract that is the evaluation itself. -/
noncomputable def evY (N n : Nat) (fn : Func) : Fsp := evFn real tab ((twY fsGn spG).env real tab N n) N fn
theorem evY_ok {f : FuncId} {fn : Func} (hf : FnOk Tryz.prog f fn) (N n : Nat) : FspOk Tryz.prog f (evY N n fn) := fn_ok mixedT tabOk (tower_ok mixedT tabOk (twY_ok fsGn_ok spG_ok) N n) N hf.get hf.enter
theorem gbare_text (α : Type) (k : AOut → Option α) : evFn real tab ((twY fsGn spG).env real tab 8 8) 8 Tryz.f35 α [] k = k (.ret (.agg [iN 0, iN 0, iN 6553600000, iN 1, iN 1, .ro (.int .i64) ([0] : List Int), .ro (.int .i64) ([0] : List Int), iN 1000, iN 1000, iN 0, iN 500, iN 10])) := by kernel_rfl
--FIN gbare | besom/besomlaw04.bare |  |  | .ret (.agg [iN 0, iN 0, iN 6553600000, iN 1, iN 1, .ro (.int .i64) ([0] : List Int), .ro (.int .i64) ([0] : List Int), iN 1000, iN 1000, iN 0, iN 500, iN 10])
theorem gbare_fin  (hs : ∀ qSm ∈ ([] : List AVal), Sm qSm) : ∃ N n, ∀ α (k : AOut → Option α), evFn real tab ((twY fsGn spG).env real tab N n) N Tryz.f35 α [] k = k (.ret (.agg [iN 0, iN 0, iN 6553600000, iN 1, iN 1, .ro (.int .i64) ([0] : List Int), .ro (.int .i64) ([0] : List Int), iN 1000, iN 1000, iN 0, iN 500, iN 10])) := by
  exact ⟨8, 8, fun α k => gbare_text α k⟩
--CON gbare
noncomputable def gbareS : Fsp := fun _ args k => match args with
  | [] => k (.ret (.agg [iN 0, iN 0, iN 6553600000, iN 1, iN 1, .ro (.int .i64) ([0] : List Int), .ro (.int .i64) ([0] : List Int), iN 1000, iN 1000, iN 0, iN 500, iN 10]))
  | _ => none
theorem gbareS_ok : FspOk Tryz.prog 35 gbareS := tower_Y fsGn_ok spG_ok ⟨Tryz.func35, fun _ _ => by kernel_rfl⟩ (by intro α args k; unfold gbareS; split <;> rfl) fun args out hSm hEq => by
  unfold gbareS at hEq
  split at hEq
  · skip
    obtain ⟨N, n, e⟩ := gbare_fin  hSm
    exact ⟨N, n, (e AOut some).trans hEq⟩
  · cases hEq
--END
theorem gup_text (α : Type) (v n : Int) (k : AOut → Option α) : evFn real tab ((twY fsGn spG).env real tab 8 8) 8 Tryz.f16 α [.int .i64 v, .int .i64 n] k = k (.ret (.agg [iN 0, iN 0, iN 0, iN v, iN n])) := by kernel_rfl
--FIN gup | besom/besomlaw04.up | (v m : Int) | $I{v}, $I{m} | .ret (.agg [iN 0, iN 0, iN 0, iN v, iN m])
theorem gup_fin (v m : Int) (hs : ∀ qSm ∈ ([.int .i64 v, .int .i64 m] : List AVal), Sm qSm) : ∃ N n, ∀ α (k : AOut → Option α), evFn real tab ((twY fsGn spG).env real tab N n) N Tryz.f16 α [.int .i64 v, .int .i64 m] k = k (.ret (.agg [iN 0, iN 0, iN 0, iN v, iN m])) := by
  exact ⟨8, 8, fun α k => gup_text α v m k⟩
--CON gup
noncomputable def gupS : Fsp := fun _ args k => match args with
  | [.int .i64 v, .int .i64 m] => k (.ret (.agg [iN 0, iN 0, iN 0, iN v, iN m]))
  | _ => none
theorem gupS_ok : FspOk Tryz.prog 16 gupS := tower_Y fsGn_ok spG_ok ⟨Tryz.func16, fun _ _ => by kernel_rfl⟩ (by intro α args k; unfold gupS; split <;> rfl) fun args out hSm hEq => by
  unfold gupS at hEq
  split at hEq
  · rename_i v m
    obtain ⟨N, n, e⟩ := gup_fin v m hSm
    exact ⟨N, n, (e AOut some).trans hEq⟩
  · cases hEq
--END
noncomputable def fsGo : FuncId → Option Fsp := fun g =>
  if g = 35 then some gbareS else
  if g = 16 then some gupS else
  if g = 18 then some (evY 110 20 Tryz.f18) else
  if g = 14 then some (evY 110 20 Tryz.f14) else
  if g = 29 then some (evY 110 20 Tryz.f29) else
  if g = 32 then some (evY 310 20 Tryz.f32) else
  if g = 20 then some (evY 110 20 Tryz.f20) else
  if g = 25 then some (evY 110 20 Tryz.f25) else
  fsGn g
theorem fsGo_ok : FsOk fsGo :=
  fs_cons gbareS_ok <|
  fs_cons gupS_ok <|
  fs_cons (evY_ok ⟨Tryz.func18, fun _ _ => by kernel_rfl⟩ 110 20) <|
  fs_cons (evY_ok ⟨Tryz.func14, fun _ _ => by kernel_rfl⟩ 110 20) <|
  fs_cons (evY_ok ⟨Tryz.func29, fun _ _ => by kernel_rfl⟩ 110 20) <|
  fs_cons (evY_ok ⟨Tryz.func32, fun _ _ => by kernel_rfl⟩ 310 20) <|
  fs_cons (evY_ok ⟨Tryz.func20, fun _ _ => by kernel_rfl⟩ 110 20) <|
  fs_cons (evY_ok ⟨Tryz.func25, fun _ _ => by kernel_rfl⟩ 110 20) <|
  fsGn_ok
--AT fsGo spG twY
set_option maxRecDepth 100000 in
theorem galive_text (α : Type) (k : AOut → Option α) : evFn real tab ((twY fsGo spG).env real tab 110 20) 110 Tryz.f12 α [] k = k (b1 true) := by kernel_rfl
--FIN galive | besom/besomlaw04.alive |  |  | b1 true
theorem galive_fin  (hs : ∀ qSm ∈ ([] : List AVal), Sm qSm) : ∃ N n, ∀ α (k : AOut → Option α), evFn real tab ((twY fsGo spG).env real tab N n) N Tryz.f12 α [] k = k (b1 true) := by
  exact ⟨110, 20, fun α k => galive_text α k⟩
--CON galive
noncomputable def galiveS : Fsp := fun _ args k => match args with
  | [] => k (b1 true)
  | _ => none
theorem galiveS_ok : FspOk Tryz.prog 12 galiveS := tower_Y fsGo_ok spG_ok ⟨Tryz.func12, fun _ _ => by kernel_rfl⟩ (by intro α args k; unfold galiveS; split <;> rfl) fun args out hSm hEq => by
  unfold galiveS at hEq
  split at hEq
  · skip
    obtain ⟨N, n, e⟩ := galive_fin  hSm
    exact ⟨N, n, (e AOut some).trans hEq⟩
  · cases hEq
--END
noncomputable def fsGp : FuncId → Option Fsp := fun g =>
  if g = 12 then some galiveS else
  if g = 31 then some (evY 110 20 Tryz.f31) else
  if g = 36 then some (evY 110 20 Tryz.f36) else
  fsGo g
theorem fsGp_ok : FsOk fsGp :=
  fs_cons galiveS_ok <|
  fs_cons (evY_ok ⟨Tryz.func31, fun _ _ => by kernel_rfl⟩ 110 20) <|
  fs_cons (evY_ok ⟨Tryz.func36, fun _ _ => by kernel_rfl⟩ 110 20) <|
  fsGo_ok
set_option maxRecDepth 100000 in
theorem gnames_text : evFn real tab ((twY fsGp spG).env real tab 110 20) 110 Tryz.f11 AOut [] some = some (b1 true) := by kernel_rfl
def gnamesF : List AVal → Option AOut
  | [] => some (b1 true)
  | _ => none
theorem gnames_ok : FspOk Tryz.prog 11 (toFsp gnamesF) := tower_Y fsGp_ok spG_ok ⟨Tryz.func11, fun _ _ => by kernel_rfl⟩ (toFsp_nat _) fun args out hSm hq => by
  replace hq := toFsp_some hq
  unfold gnamesF at hq
  split at hq
  · cases hq
    exact ⟨110, 20, gnames_text⟩
  · cases hq
end Go.Proofs.YtgpljldfbhkdlaaGreat

/- GlideRuns: its text, and that it answers true. -/
namespace Go.Proofs.YtgpljldfbhkdlaaGreat
open Go.RowKit

--AT fsG7 spL twY
def eqSp (a b : SpI) : Bool := a.1 == b.1 && (a.2.1 == b.2.1 && true)
theorem eqSp_self (a : SpI) : eqSp a a = true := by unfold eqSp; simp
def samW (l m : List SpI) : Bool := (l.length : Int) == (m.length : Int) && !((List.range l.length).any fun i => !eqSp (l.getD i spD) (m.getD i spD))
theorem samW_self (l : List SpI) : samW l l = true := by
  unfold samW
  simp [eqSp_self]
def samT {α : Type} (N : Nat) (l m : List SpI) (k : AOut → Option α) : Option α :=
  bif (l.length : Int) != (m.length : Int) then k (b1 false)
  else
    afterL
      (iterL N
        (fun (x : Int × PUnit) =>
          bif decide (x.1 < (l.length : Int)) then
            if 0 ≤ x.1 ∧ x.1 < (l.length : Int) then
              if 0 ≤ x.1 ∧ x.1 < (m.length : Int) then
                bif !eqSp (l.getD x.1.toNat spD) (m.getD x.1.toNat spD) then finL (k (b1 false))
                else some (LRes.cont (IntKind.i64.wrap (x.1 + 1), PUnit.unit))
              else none
            else none
          else some (LRes.brk 0 (x.1, PUnit.unit)))
        (0, PUnit.unit))
      fun (id : Nat) (_ : Int × PUnit) => if id = 0 then k (b1 true) else none
theorem rsamS_text (N n0 : Nat) (α : Type) (l m : List SpI) (k : AOut → Option α) : evFn real tab ((twY fsG7 spL).env real tab N (n0 + 8)) N Tryz.f31 α [.ro (.recd (.cons (.int .i64) (.cons (.int .i64) .nil))) l, .ro (.recd (.cons (.int .i64) (.cons (.int .i64) .nil))) m] k = samT N l m k := by kernel_rfl
theorem samT_fin {α : Type} (l m : List SpI) (hl : l.length ≤ maxLen) (k : AOut → Option α) : samT (l.length + 1) l m k = k (b1 (samW l m)) := by
  unfold samT samW
  by_cases e : (l.length : Int) = (m.length : Int)
  · rw [show ((l.length : Int) != (m.length : Int)) = false by simpa using e, show ((l.length : Int) == (m.length : Int)) = true by simpa using e, cond_false, Bool.true_and]
    refine (any_loop (fun i : Nat => ((i : Int), PUnit.unit)) l.length (fun i => !eqSp (l.getD i spD) (m.getD i spD)) (b := 0) (y := ((l.length : Int), PUnit.unit)) (k (b1 false)) (fun i hi => ?_) ?_).trans ?_
    · simp only [lt_len hi, cond_true]
      rw [if_pos (in_len hi), if_pos (in_len (show i < m.length by omega)), wrap_next hi hl, Int.toNat_natCast]
    · simp only [not_lt_len, cond_false]
    · cases (List.range l.length).any fun i => !eqSp (l.getD i spD) (m.getD i spD) <;> rfl
  · rw [show ((l.length : Int) != (m.length : Int)) = true by simpa using e, show ((l.length : Int) == (m.length : Int)) = false by simpa using e]
    rfl
--FIN rsamS | besom/besomref04.Same | (l m : List SpI) | .ro $SSH l, .ro $SSH m | b1 (samW l m)
theorem rsamS_fin (l m : List SpI) (hs : ∀ qSm ∈ ([.ro (.recd (.cons (.int .i64) (.cons (.int .i64) .nil))) l, .ro (.recd (.cons (.int .i64) (.cons (.int .i64) .nil))) m] : List AVal), Sm qSm) : ∃ N n, ∀ α (k : AOut → Option α), evFn real tab ((twY fsG7 spL).env real tab N n) N Tryz.f31 α [.ro (.recd (.cons (.int .i64) (.cons (.int .i64) .nil))) l, .ro (.recd (.cons (.int .i64) (.cons (.int .i64) .nil))) m] k = k (b1 (samW l m)) := by
  exact ⟨l.length + 1, 8, fun α k => (rsamS_text (l.length + 1) 0 α l m k).trans (samT_fin l m (hs _ (List.mem_cons_self ..)).len k)⟩
--CON rsamS
noncomputable def rsamSS : Fsp := fun _ args k => match args with
  | [.ro (.recd (.cons (.int .i64) (.cons (.int .i64) .nil))) l, .ro (.recd (.cons (.int .i64) (.cons (.int .i64) .nil))) m] => k (b1 (samW l m))
  | _ => none
theorem rsamSS_ok : FspOk Tryz.prog 31 rsamSS := tower_Y fsG7_ok spL_ok ⟨Tryz.func31, fun _ _ => by kernel_rfl⟩ (by intro α args k; unfold rsamSS; split <;> rfl) fun args out hSm hEq => by
  unfold rsamSS at hEq
  split at hEq
  · rename_i l m
    obtain ⟨N, n, e⟩ := rsamS_fin l m hSm
    exact ⟨N, n, (e AOut some).trans hEq⟩
  · cases hEq
--END
--FS fsGr | fsG7 | galive=besom/besomlaw04.alive;rRun=besom/besomref04.Run;rWay=besom/besomref04.Way;rsamS
noncomputable def fsGr : FuncId → Option Fsp := fun g =>
  if g = 12 then some galiveS else
  if g = 28 then some rRunS else
  if g = 30 then some rWayS else
  if g = 31 then some rsamSS else
  fsG7 g
theorem fsGr_ok : FsOk fsGr :=
  fs_cons galiveS_ok <|
  fs_cons rRunS_ok <|
  fs_cons rWayS_ok <|
  fs_cons rsamSS_ok <|
  fsG7_ok
--END
def eqBr (a b : BrI) : Bool := a.1 == b.1 && (a.2.1 == b.2.1 && (a.2.2.1 == b.2.2.1 && true))
theorem eqBr_self (a : BrI) : eqBr a a = true := by unfold eqBr; simp
def ownT {α : Type} (N : Nat) (l l' : List BrI) (k : AOut → Option α) (K : Option α) : Option α :=
  afterL
    (iterL N
      (fun (x : Int × PUnit) =>
        bif decide (x.1 < (l.length : Int)) then
          if 0 ≤ x.1 ∧ x.1 < (l'.length : Int) then
            if 0 ≤ x.1 ∧ x.1 < (l.length : Int) then
              bif !eqBr (l'.getD x.1.toNat brD) (l.getD x.1.toNat brD) then finL (k (b1 false))
              else some (LRes.cont (IntKind.i64.wrap (x.1 + 1), PUnit.unit))
            else none
          else none
        else some (LRes.brk 0 (x.1, PUnit.unit)))
      (0, PUnit.unit))
    fun (id : Nat) (_ : Int × PUnit) => if id = 0 then K else none
theorem ownT_fin {α : Type} (N : Nat) (l : List BrI) (hl : l.length ≤ 100) (hN : l.length < N) (k : AOut → Option α) (K : Option α) : ownT N l l k K = K := by
  unfold ownT
  refine (count_loop (fun i : Nat => ((i : Int), PUnit.unit)) l.length (b := 0) (y := ((l.length : Int), PUnit.unit)) (fun i hi => ?_) ?_ hN).trans ?_
  · simp only [lt_len hi, cond_true]
    rw [if_pos (in_len hi), if_pos (in_len hi), i64_in ((i : Int) + 1) (by omega), eqBr_self]
    rfl
  · simp only [not_lt_len, cond_false]
  · rfl
noncomputable def grE {α : Type} (B B' : Bool) (O O' : Option (List St5)) (s : St5) (e : Int) (k : AOut → Option α) : Option α :=
  bif rnX B' O' s == rnX B O s && (rnY B' O' s == rnY B O s && true) && (rnU B' O' s == rnU B O s && (rnV B' O' s == rnV B O s && true) && (rnS B' O' s == rnS B O s && true)) then
    bif rnN B' O' == rnN B O then bif rnZ B' O' == rnZ B O then bif samW (wyL (B' && wyB e) O' s e) (wyL (B && wyB e) O s e) then bif rnZ (B' && wyB e) O' == rnZ (B && wyB e) O then k (b1 true) else k (b1 false) else k (b1 false) else k (b1 false) else k (b1 false) else k (b1 false)
noncomputable def grY {α : Type} (N : Nat) (cx cy sd w h : Int) (pb po : List Int) (fl ke sw be we : Int) (ax ay vx vy sp : Int) (l l' : List BrI) (m e : Int) (k : AOut → Option α) : Option α :=
  if (([] : List BrI).length + l.length) * 24 ≤ room then ownT N l l' k (grE (rnB cx cy sd w h pb po fl ke sw be we ax ay vx vy sp l m) (rnB cx cy sd w h pb po fl ke sw be we ax ay vx vy sp l' m) (gRL cx cy sd w h pb po fl ke sw be we ax ay vx vy sp l m) (gRL cx cy sd w h pb po fl ke sw be we ax ay vx vy sp l' m) (ax, ay, vx, vy, sp) e k) else none
--AT fsGr spL twW
set_option maxRecDepth 100000 in
theorem gruns_text (N n0 : Nat) (α : Type) (cx cy sd w h : Int) (pb po : List Int) (fl ke sw be we : Int) (ax ay vx vy sp : Int) (l : List BrI) (m e : Int) (k : AOut → Option α) : evFn real tab ((twW fsGr spL).env real tab N (n0 + 8)) N Tryz.f9 α [.agg [.int .i64 cx, .int .i64 cy, .int .i64 sd, .int .i64 w, .int .i64 h, .ro (.int .i64) pb, .ro (.int .i64) po, .int .i64 fl, .int .i64 ke, .int .i64 sw, .int .i64 be, .int .i64 we], .agg [.int .i64 ax, .int .i64 ay, .int .i64 vx, .int .i64 vy, .int .i64 sp], .ro (.recd (.cons (.int .i64) (.cons (.int .i64) (.cons (.int .i64) .nil)))) l, .int .i64 m, .int .i64 e] k =
    bif decide ((pb.length : Int) > 400) then k (b1 true) else bif decide ((po.length : Int) > 400) then k (b1 true) else bif decide ((l.length : Int) > 66) then k (b1 true)
    else bif decide (m > 120) then bif decide (m ≤ 6000) then k (b1 true) else grY N cx cy sd w h pb po fl ke sw be we ax ay vx vy sp l ([] ++ l) m e k else grY N cx cy sd w h pb po fl ke sw be we ax ay vx vy sp l ([] ++ l) m e k := by kernel_rfl
theorem grY_fin {α : Type} (cx cy sd w h : Int) (pb po : List Int) (fl ke sw be we : Int) (ax ay vx vy sp : Int) (l : List BrI) (m e : Int) (hl : l.length ≤ 66) (k : AOut → Option α) : grY 100 cx cy sd w h pb po fl ke sw be we ax ay vx vy sp l ([] ++ l) m e k = k (b1 true) := by
  unfold grY
  rw [if_pos (by simp [room]; omega), List.nil_append, ownT_fin 100 l (by omega) (by omega)]
  unfold grE
  rw [samW_self]
  simp only [BEq.rfl, Bool.and_self, cond_true]
theorem gruns_true (cx cy sd w h : Int) (pb po : List Int) (fl ke sw be we : Int) (ax ay vx vy sp : Int) (l : List BrI) (m e : Int) : evFn real tab ((twW fsGr spL).env real tab 100 8) 100 Tryz.f9 AOut [.agg [.int .i64 cx, .int .i64 cy, .int .i64 sd, .int .i64 w, .int .i64 h, .ro (.int .i64) pb, .ro (.int .i64) po, .int .i64 fl, .int .i64 ke, .int .i64 sw, .int .i64 be, .int .i64 we], .agg [.int .i64 ax, .int .i64 ay, .int .i64 vx, .int .i64 vy, .int .i64 sp], .ro (.recd (.cons (.int .i64) (.cons (.int .i64) (.cons (.int .i64) .nil)))) l, .int .i64 m, .int .i64 e] some = some (b1 true) := by
  refine (gruns_text 100 0 AOut cx cy sd w h pb po fl ke sw be we ax ay vx vy sp l m e some).trans ?_
  cases decide ((pb.length : Int) > 400)
  · cases decide ((po.length : Int) > 400)
    · cases h3 : decide ((l.length : Int) > 66)
      · have := of_decide_eq_false h3
        rw [grY_fin cx cy sd w h pb po fl ke sw be we ax ay vx vy sp l m e (by omega)]
        cases decide (m > 120) <;> cases decide (m ≤ 6000) <;> rfl
      · rfl
    · rfl
  · rfl
def grunsF : List AVal → Option AOut
  | [.agg [.int .i64 cx, .int .i64 cy, .int .i64 sd, .int .i64 w, .int .i64 h, .ro (.int .i64) pb, .ro (.int .i64) po, .int .i64 fl, .int .i64 ke, .int .i64 sw, .int .i64 be, .int .i64 we], .agg [.int .i64 ax, .int .i64 ay, .int .i64 vx, .int .i64 vy, .int .i64 sp], .ro (.recd (.cons (.int .i64) (.cons (.int .i64) (.cons (.int .i64) .nil)))) l, .int .i64 m, .int .i64 e] => some (b1 true)
  | _ => none
theorem gruns_ok : FspOk Tryz.prog 9 (toFsp grunsF) := tower_W fsGr_ok spL_ok ⟨Tryz.func9, fun _ _ => by kernel_rfl⟩ (toFsp_nat _) fun args out hSm hq => by
  replace hq := toFsp_some hq
  unfold grunsF at hq
  split at hq
  · rename_i cx cy sd w h pb po fl ke sw be we ax ay vx vy sp l m e
    cases hq
    exact ⟨100, 8, gruns_true cx cy sd w h pb po fl ke sw be we ax ay vx vy sp l m e⟩
  · cases hq
end Go.Proofs.YtgpljldfbhkdlaaGreat
