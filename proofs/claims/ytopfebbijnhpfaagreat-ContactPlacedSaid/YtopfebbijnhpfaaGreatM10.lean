/- Parts of the proof, in build order. -/
import Derived.Test.YtopfebbijnhpfaaGreatM9
import Derived.Test.YtopfebbijnhpfaaGreatM8
import Derived.Test.YtopfebbijnhpfaaGreatM6
import Derived.Test.YtopfebbijnhpfaaGreatM7
namespace Go.Proofs.YtopfebbijnhpfaaGreat
open Go.RowKit
def tckB (t : Int) : Bool := decide (0 ≤ t) && decide (t ≤ 6000)
noncomputable def tsA (c : Bool) (sl bd ax ay vx vy sp n : Int) : Int := selI c (tkStep sl bd ax ay vx vy sp n (fun a _ _ _ _ => a) 0)
noncomputable def tsB (c : Bool) (sl bd ax ay vx vy sp n : Int) : Int := selI c (tkStep sl bd ax ay vx vy sp n (fun _ a _ _ _ => a) 0)
noncomputable def tsC (c : Bool) (sl bd ax ay vx vy sp n : Int) : Int := selI c (tkStep sl bd ax ay vx vy sp n (fun _ _ a _ _ => a) 0)
noncomputable def tsD (c : Bool) (sl bd ax ay vx vy sp n : Int) : Int := selI c (tkStep sl bd ax ay vx vy sp n (fun _ _ _ a _ => a) 0)
noncomputable def tsE (c : Bool) (sl bd ax ay vx vy sp n : Int) : Int := selI c (tkStep sl bd ax ay vx vy sp n (fun _ _ _ _ a => a) 0)
noncomputable def tsZ (c : Bool) (sl bd ax ay vx vy sp n : Int) : Int := bif c then tkStep sl bd ax ay vx vy sp n (fun _ _ _ _ _ => 0) 4 else 2
noncomputable def tkO (c : Bool) (sl bd ax ay vx vy sp n : Int) : AOut := .ret (.tup [.agg [.int .i64 (tsA c sl bd ax ay vx vy sp n), .int .i64 (tsB c sl bd ax ay vx vy sp n), .int .i64 (tsC c sl bd ax ay vx vy sp n), .int .i64 (tsD c sl bd ax ay vx vy sp n), .int .i64 (tsE c sl bd ax ay vx vy sp n)], .int .i64 (tsZ c sl bd ax ay vx vy sp n)])
set_option maxRecDepth 100000 in
theorem gStr_text (N n0 : Nat) (α : Type) (l : List BrI) (t : Int) (k : AOut → Option α) : evFn real tab ((twY fsG5 spG).env real tab N (n0 + 8)) N Tryz.f97 α [.ro (.recd (.cons (.int .i64) (.cons (.int .i64) (.cons (.int .i64) .nil)))) l, .int .i64 t] k =
 bif er2 (brsB l) != 0 then k (AOut.ret (AVal.tup [AVal.int IntKind.i64 0, AVal.int IntKind.i64 2])) else bif decide (0 ≤ t) then bif !decide (t ≤ 6000) then k (AOut.ret (AVal.tup
 [AVal.int IntKind.i64 0, AVal.int IntKind.i64 2])) else bif l.all brmB then k (AOut.ret (AVal.tup [AVal.int IntKind.i64 (strN l t), AVal.int IntKind.i64 0])) else none else k
 (AOut.ret (AVal.tup [AVal.int IntKind.i64 0, AVal.int IntKind.i64 2])) := by kernel_rfl
set_option maxRecDepth 100000 in
theorem grgt_text (N n0 : Nat) (α : Type) (cx cy sd w h : Int) (pb po : List Int) (fl ke sw be we : Int) (ax ay vx vy sp : Int) (l : List BrI) (k : AOut → Option α) : evFn real tab ((twY fsG5 spG).env real tab N (n0 + 8)) N Tryz.f117 α [.agg [.int .i64 cx, .int .i64 cy, .int .i64 sd, .int .i64 w, .int .i64 h, .ro (.int .i64) pb, .ro (.int .i64) po, .int .i64 fl, .int .i64 ke, .int .i64 sw, .int .i64 be, .int .i64 we], .agg [.int .i64 ax, .int .i64 ay, .int .i64 vx, .int .i64 vy, .int .i64 sp], .ro (.recd (.cons (.int .i64) (.cons (.int .i64) (.cons (.int .i64) .nil)))) l] k =
 bif er2 (iceB cx cy sd w h pb po) == 0 then bif er2 (graB fl ke sw be we) == 0 then bif er2 (movB ax ay vx vy sp) == 0 then k (AOut.ret (AVal.bool (er2 (brsB l) == 0))) else k
 (AOut.ret (AVal.bool false)) else k (AOut.ret (AVal.bool false)) else k (AOut.ret (AVal.bool false)) := by kernel_rfl
set_option maxRecDepth 100000 in
theorem grg0_text (N n0 : Nat) (α : Type) (cx cy sd w h : Int) (pb po : List Int) (fl ke sw be we : Int) (ax ay vx vy sp : Int) (k : AOut → Option α) : evFn real tab ((twY fsG5 spG).env real tab N (n0 + 8)) N Tryz.f117 α [.agg [.int .i64 cx, .int .i64 cy, .int .i64 sd, .int .i64 w, .int .i64 h, .ro (.int .i64) pb, .ro (.int .i64) po, .int .i64 fl, .int .i64 ke, .int .i64 sw, .int .i64 be, .int .i64 we], .agg [.int .i64 ax, .int .i64 ay, .int .i64 vx, .int .i64 vy, .int .i64 sp], .nils] k =
 bif er2 (iceB cx cy sd w h pb po) == 0 then bif er2 (graB fl ke sw be we) == 0 then bif er2 (movB ax ay vx vy sp) == 0 then k (AOut.ret (AVal.bool (0 == 0))) else k (AOut.ret
 (AVal.bool false)) else k (AOut.ret (AVal.bool false)) else k (AOut.ret (AVal.bool false)) := by kernel_rfl
set_option maxRecDepth 100000 in
theorem gTick_text (N n0 : Nat) (α : Type) (cx cy sd w h : Int) (pb po : List Int) (fl ke sw be we : Int) (ax ay vx vy sp : Int) (n : Int) (k : AOut → Option α) : evFn real tab ((twY fsG5 spG).env real tab N (n0 + 8)) N Tryz.f99 α [.agg [.int .i64 cx, .int .i64 cy, .int .i64 sd, .int .i64 w, .int .i64 h, .ro (.int .i64) pb, .ro (.int .i64) po], .agg [.int .i64 fl, .int .i64 ke, .int .i64 sw, .int .i64 be, .int .i64 we], .agg [.int .i64 ax, .int .i64 ay, .int .i64 vx, .int .i64 vy, .int .i64 sp], .int .i64 n] k =
 bif er2 (iceB cx cy sd w h pb po) == 0 then bif er2 (graB fl ke sw be we) == 0 then bif er2 (movB ax ay vx vy sp) == 0 then bif decide (0 ≤ n) then bif !decide (n ≤ 1000) then k
 (AOut.ret (AVal.tup [AVal.agg [AVal.int IntKind.i64 0, AVal.int IntKind.i64 0, AVal.int IntKind.i64 0, AVal.int IntKind.i64 0, AVal.int IntKind.i64 0], AVal.int IntKind.i64 2]))
 else bif rgtB cx cy sd w h pb po fl ke sw be we ax ay vx vy sp n then bif tkR (slwV cx cy sd w h pb po fl ke sw be we ax ay) vx vy n then k (AOut.ret (AVal.tup [AVal.agg [AVal.int
 IntKind.i64 ax, AVal.int IntKind.i64 ay, AVal.int IntKind.i64 0, AVal.int IntKind.i64 0, AVal.int IntKind.i64 0], AVal.int IntKind.i64 0])) else bif tkM (slwV cx cy sd w h pb po fl
 ke sw be we ax ay) (bdvV cx cy sd w h pb po fl ke sw be we ax ay) ax ay vx vy sp n then k (AOut.ret (AVal.tup [AVal.agg [AVal.int IntKind.i64 (ax + tkVX (slwV cx cy sd w h pb po fl
 ke sw be we ax ay) (bdvV cx cy sd w h pb po fl ke sw be we ax ay) vx vy sp n), AVal.int IntKind.i64 (ay + tkVY (slwV cx cy sd w h pb po fl ke sw be we ax ay) (bdvV cx cy sd w h pb
 po fl ke sw be we ax ay) vx vy sp n), AVal.int IntKind.i64 (tkVX (slwV cx cy sd w h pb po fl ke sw be we ax ay) (bdvV cx cy sd w h pb po fl ke sw be we ax ay) vx vy sp n), AVal.int
 IntKind.i64 (tkVY (slwV cx cy sd w h pb po fl ke sw be we ax ay) (bdvV cx cy sd w h pb po fl ke sw be we ax ay) vx vy sp n), AVal.int IntKind.i64 sp], AVal.int IntKind.i64 0])) else
 k (AOut.ret (AVal.tup [AVal.agg [AVal.int IntKind.i64 0, AVal.int IntKind.i64 0, AVal.int IntKind.i64 0, AVal.int IntKind.i64 0, AVal.int IntKind.i64 0], AVal.int IntKind.i64 4]))
 else none else k (AOut.ret (AVal.tup [AVal.agg [AVal.int IntKind.i64 0, AVal.int IntKind.i64 0, AVal.int IntKind.i64 0, AVal.int IntKind.i64 0, AVal.int IntKind.i64 0], AVal.int
 IntKind.i64 2])) else k (AOut.ret (AVal.tup [AVal.agg [AVal.int IntKind.i64 0, AVal.int IntKind.i64 0, AVal.int IntKind.i64 0, AVal.int IntKind.i64 0, AVal.int IntKind.i64 0],
 AVal.int IntKind.i64 2])) else k (AOut.ret (AVal.tup [AVal.agg [AVal.int IntKind.i64 0, AVal.int IntKind.i64 0, AVal.int IntKind.i64 0, AVal.int IntKind.i64 0, AVal.int IntKind.i64
 0], AVal.int IntKind.i64 2])) else k (AOut.ret (AVal.tup [AVal.agg [AVal.int IntKind.i64 0, AVal.int IntKind.i64 0, AVal.int IntKind.i64 0, AVal.int IntKind.i64 0, AVal.int
 IntKind.i64 0], AVal.int IntKind.i64 2])) := by kernel_rfl
theorem gStr_fin (l : List BrI) (t : Int) (hs : ∀ qSm ∈ ([.ro (.recd (.cons (.int .i64) (.cons (.int .i64) (.cons (.int .i64) .nil)))) l, .int .i64 t] : List AVal), Sm qSm) : ∃ N n, ∀ α (k : AOut → Option α), evFn real tab ((twY fsG5 spG).env real tab N n) N Tryz.f97 α [.ro (.recd (.cons (.int .i64) (.cons (.int .i64) (.cons (.int .i64) .nil)))) l, .int .i64 t] k = k (i2 (selI (brsB l && tckB t) (strN l t)) (er2 (brsB l && tckB t))) := by
  refine ⟨8, 8, fun α k => (gStr_text 8 0 α l t k).trans ?_⟩
  have e : (er2 (brsB l) != 0) = !(brsB l) := by cases brsB l <;> rfl
  rw [e]
  unfold tckB
  cases hb : brsB l
  · rfl
  cases h1 : decide (0 ≤ t)
  · rfl
  cases h2 : decide (t ≤ 6000)
  · rfl
  unfold brsB at hb
  rw [Bool.and_eq_true] at hb
  rw [hb.2]; rfl
noncomputable def gStrS : Fsp := fun _ args k => match args with
  | [.ro (.recd (.cons (.int .i64) (.cons (.int .i64) (.cons (.int .i64) .nil)))) l, .int .i64 t] => k (i2 (selI (brsB l && tckB t) (strN l t)) (er2 (brsB l && tckB t)))
  | _ => none
theorem gStrS_ok : FspOk Tryz.prog 97 gStrS := tower_Y fsG5_ok spG_ok ⟨Tryz.func97, fun _ _ => by kernel_rfl⟩ (by intro α args k; unfold gStrS; split <;> rfl) fun args out hSm hEq => by
  unfold gStrS at hEq
  split at hEq
  · rename_i l t
    obtain ⟨N, n, e⟩ := gStr_fin l t hSm
    exact ⟨N, n, (e AOut some).trans hEq⟩
  · cases hEq
noncomputable def grgtS : Fsp := fun _ args k => match args with
  | [.agg [.int .i64 cx, .int .i64 cy, .int .i64 sd, .int .i64 w, .int .i64 h, .ro (.int .i64) pb, .ro (.int .i64) po, .int .i64 fl, .int .i64 ke, .int .i64 sw, .int .i64 be, .int .i64 we], .agg [.int .i64 ax, .int .i64 ay, .int .i64 vx, .int .i64 vy, .int .i64 sp], .ro (.recd (.cons (.int .i64) (.cons (.int .i64) (.cons (.int .i64) .nil)))) l] => k (b1 (iceB cx cy sd w h pb po && graB fl ke sw be we && movB ax ay vx vy sp && brsB l))
  | [.agg [.int .i64 cx, .int .i64 cy, .int .i64 sd, .int .i64 w, .int .i64 h, .ro (.int .i64) pb, .ro (.int .i64) po, .int .i64 fl, .int .i64 ke, .int .i64 sw, .int .i64 be, .int .i64 we], .agg [.int .i64 ax, .int .i64 ay, .int .i64 vx, .int .i64 vy, .int .i64 sp], .nils] => k (b1 (iceB cx cy sd w h pb po && graB fl ke sw be we && movB ax ay vx vy sp))
  | _ => none
theorem grgtS_ok : FspOk Tryz.prog 117 grgtS := tower_Y fsG5_ok spG_ok ⟨Tryz.func117, fun _ _ => by kernel_rfl⟩ (by intro α args k; unfold grgtS; split <;> rfl) fun args out hSm hEq => by
  unfold grgtS at hEq
  split at hEq
  · rename_i cx cy sd w h pb po fl ke sw be we ax ay vx vy sp l
    refine ⟨8, 8, (grgt_text 8 0 AOut cx cy sd w h pb po fl ke sw be we ax ay vx vy sp l some).trans (Eq.trans ?_ hEq)⟩
    rw [er2_0, er2_0, er2_0, er2_0]
    cases iceB cx cy sd w h pb po <;> cases graB fl ke sw be we <;> cases movB ax ay vx vy sp <;> rfl
  · rename_i cx cy sd w h pb po fl ke sw be we ax ay vx vy sp
    refine ⟨8, 8, (grg0_text 8 0 AOut cx cy sd w h pb po fl ke sw be we ax ay vx vy sp some).trans (Eq.trans ?_ hEq)⟩
    rw [er2_0, er2_0, er2_0]
    cases iceB cx cy sd w h pb po <;> cases graB fl ke sw be we <;> cases movB ax ay vx vy sp <;> rfl
  · cases hEq
theorem gTick_fin (cx cy sd w h : Int) (pb po : List Int) (fl ke sw be we : Int) (ax ay vx vy sp : Int) (u : Int) (hs : ∀ qSm ∈ ([.agg [.int .i64 cx, .int .i64 cy, .int .i64 sd, .int .i64 w, .int .i64 h, .ro (.int .i64) pb, .ro (.int .i64) po], .agg [.int .i64 fl, .int .i64 ke, .int .i64 sw, .int .i64 be, .int .i64 we], .agg [.int .i64 ax, .int .i64 ay, .int .i64 vx, .int .i64 vy, .int .i64 sp], .int .i64 u] : List AVal), Sm qSm) : ∃ N n, ∀ α (k : AOut → Option α), evFn real tab ((twY fsG5 spG).env real tab N n) N Tryz.f99 α [.agg [.int .i64 cx, .int .i64 cy, .int .i64 sd, .int .i64 w, .int .i64 h, .ro (.int .i64) pb, .ro (.int .i64) po], .agg [.int .i64 fl, .int .i64 ke, .int .i64 sw, .int .i64 be, .int .i64 we], .agg [.int .i64 ax, .int .i64 ay, .int .i64 vx, .int .i64 vy, .int .i64 sp], .int .i64 u] k = k (tkO (rgtB cx cy sd w h pb po fl ke sw be we ax ay vx vy sp u) (slwV cx cy sd w h pb po fl ke sw be we ax ay) (bdvV cx cy sd w h pb po fl ke sw be we ax ay) ax ay vx vy sp u) := by
  refine ⟨8, 8, fun α k => (gTick_text 8 0 α cx cy sd w h pb po fl ke sw be we ax ay vx vy sp u k).trans ?_⟩
  rw [er2_0, er2_0, er2_0]
  unfold tkO tsA tsB tsC tsD tsE tsZ tkStep rgtB grnB
  generalize tkM (slwV cx cy sd w h pb po fl ke sw be we ax ay) (bdvV cx cy sd w h pb po fl ke sw be we ax ay) ax ay vx vy sp u = qm
  generalize tkR (slwV cx cy sd w h pb po fl ke sw be we ax ay) vx vy u = qr
  cases iceB cx cy sd w h pb po
  · rfl
  cases graB fl ke sw be we
  · rfl
  cases movB ax ay vx vy sp
  · rfl
  cases decide (0 ≤ u)
  · rfl
  cases decide (u ≤ 1000)
  · rfl
  cases qr
  · cases qm <;> rfl
  · rfl
noncomputable def gTickS : Fsp := fun _ args k => match args with
  | [.agg [.int .i64 cx, .int .i64 cy, .int .i64 sd, .int .i64 w, .int .i64 h, .ro (.int .i64) pb, .ro (.int .i64) po], .agg [.int .i64 fl, .int .i64 ke, .int .i64 sw, .int .i64 be, .int .i64 we], .agg [.int .i64 ax, .int .i64 ay, .int .i64 vx, .int .i64 vy, .int .i64 sp], .int .i64 u] => k (tkO (rgtB cx cy sd w h pb po fl ke sw be we ax ay vx vy sp u) (slwV cx cy sd w h pb po fl ke sw be we ax ay) (bdvV cx cy sd w h pb po fl ke sw be we ax ay) ax ay vx vy sp u)
  | _ => none
theorem gTickS_ok : FspOk Tryz.prog 99 gTickS := tower_Y fsG5_ok spG_ok ⟨Tryz.func99, fun _ _ => by kernel_rfl⟩ (by intro α args k; unfold gTickS; split <;> rfl) fun args out hSm hEq => by
  unfold gTickS at hEq
  split at hEq
  · rename_i cx cy sd w h pb po fl ke sw be we ax ay vx vy sp u
    obtain ⟨N, n, e⟩ := gTick_fin cx cy sd w h pb po fl ke sw be we ax ay vx vy sp u hSm
    exact ⟨N, n, (e AOut some).trans hEq⟩
  · cases hEq
noncomputable def fsG6 : FuncId → Option Fsp := fun g =>
  if g = 117 then some grgtS else
  if g = 97 then some gStrS else
  if g = 99 then some gTickS else
  fsG5 g
theorem fsG6_ok : FsOk fsG6 :=
  fs_cons grgtS_ok <|
  fs_cons gStrS_ok <|
  fs_cons gTickS_ok <|
  fsG5_ok
end Go.Proofs.YtopfebbijnhpfaaGreat

namespace Go.Proofs.YtopfebbijnhpfaaGreat
open Go.RowKit
section
variable {S A σ α : Type}
end
/-! Stones. -/
/-! Places of a way. -/
end Go.Proofs.YtopfebbijnhpfaaGreat

namespace Go.Proofs.YtopfebbijnhpfaaGreat
open Go.RowKit
/-! Way. -/
end Go.Proofs.YtopfebbijnhpfaaGreat

namespace Go.Proofs.YtopfebbijnhpfaaGreat
open Go.RowKit
abbrev BdI := Int × Int × ((Int × Int × Unit) × (Int × Int × Unit) × Int × Unit) × Bool × Unit
abbrev StI := Int × Int × (Int × Int × Unit) × Unit
def bdD : BdI := (0, 0, ((0, 0, ()), (0, 0, ()), 0, ()), false, ())
def stD : StI := (0, 0, (0, 0, ()), ())
abbrev BdI.x (b : BdI) : Int := b.2.2.1.1.1
abbrev BdI.y (b : BdI) : Int := b.2.2.1.1.2.1
abbrev BdI.u (b : BdI) : Int := b.2.2.1.2.1.1
abbrev BdI.v (b : BdI) : Int := b.2.2.1.2.1.2.1
abbrev BdI.s (b : BdI) : Int := b.2.2.1.2.2.1
abbrev BdI.o (b : BdI) : Bool := b.2.2.2.1
def bdC (b : BdI) : Ck.Bod := bodOf b
def sceB (l : List BdI) : Bool := Ck.sceneB (l.map bdC)
def sceE (l : List BdI) : Int := bif sceB l then 0 else 2
def cckF : List AVal → Option AOut
  | [.ro (.recd (.cons (.int .i64) (.cons (.int .i64) (.cons (.recd (.cons (.recd (.cons (.int .i64) (.cons (.int .i64) .nil))) (.cons (.recd (.cons (.int .i64) (.cons (.int .i64) .nil))) (.cons (.int .i64) .nil)))) (.cons .bool .nil))))) xs] => some (i1 (sceE xs))
  | [.nils] => some (i1 0)
  | _ => none
theorem fsp_same2 {P : Program} {f : FuncId} {F G : List AVal → Option AOut} (h : ∀ args out, G args = some out → F args = some out) (hF : FspOk P f (toFsp F)) : FspOk P f (toFsp G) where
  enter := hF.enter
  nat := toFsp_nat _
  calls := fun args out hout => hF.calls args out (by
    have := h args out (toFsp_some hout)
    unfold toFsp
    rw [this])
theorem sc_is (l : List BdI) : scnE l = sceE l := by
  show Ck.errB (Ck.sceneB (l.map bdC)) = bif Ck.sceneB (l.map bdC) then 0 else 2
  cases Ck.sceneB (l.map bdC) <;> rfl
theorem cck_ok : FspOk Tryz.prog 17 (toFsp cckF) := fsp_same2 (fun args out h => by
  unfold cckF at h
  split at h
  · rename_i xs
    cases h
    exact congrArg (fun e => some (i1 e)) (sc_is xs)
  · cases h; rfl
  · cases h) ccheck_fsp
noncomputable def fsC0 : FuncId → Option Fsp := fun g =>
  if g = 17 then some (toFsp cckF) else
  if g = 27 then some validS else
  if g = 28 then some touchS else
  fsG6 g
theorem fsC0_ok : FsOk fsC0 :=
  fs_cons cck_ok <|
  fs_cons validS_ok <|
  fs_cons touchS_ok <|
  fsG6_ok
def fmL {X Y : Type} (p : X → Bool) (g : X → Y) (d : X) (l : List X) : Nat → List Y
  | 0 => []
  | i + 1 => bif p (l.getD i d) then fmL p g d l i ++ [g (l.getD i d)] else fmL p g d l i
theorem fmL_len {X Y : Type} (p : X → Bool) (g : X → Y) (d : X) (l : List X) : ∀ i, (fmL p g d l i).length ≤ i
  | 0 => Nat.le_refl _
  | i + 1 => by
    have := fmL_len p g d l i
    rw [fmL]
    cases p (l.getD i d)
    · simp only [cond_false]; omega
    · simp only [cond_true, List.length_append, List.length_singleton]; omega
theorem fmL_all {X Y : Type} (p : X → Bool) (g : X → Y) (d : X) (l : List X) : fmL p g d l l.length = (l.filter p).map g := by
  have key : ∀ i, i ≤ l.length → fmL p g d l i = ((l.take i).filter p).map g := fun i => by
    induction i with
    | zero => intro _; rfl
    | succ i ih =>
      intro h
      have e : l.getD i d = l[i] := by rw [List.getD_eq_getElem?_getD, List.getElem?_eq_getElem (by omega)]; rfl
      rw [fmL, ih (by omega), List.take_add_one, List.getElem?_eq_getElem (by omega), List.filter_append, List.map_append, e]
      cases hp : p l[i]
      · simp [hp]
      · simp [hp]
  rw [key _ (Nat.le_refl _), List.take_length]
/-! Valid scenes. -/
def bdOk (b : BdI) : Bool := bodB b.1 b.2.1 b.x b.y b.u b.v b.s
theorem scnB_eq (l : List BdI) : sceB l = Ck.sceneB (l.map bdC) := rfl
theorem bods_mem : ∀ (l : List BdI) (pre : List Ck.Bod), Ck.bodsOk pre (l.map bdC) = true → ∀ b ∈ l, bdOk b = true ∧ (b.o = true → b.u = 0 ∧ b.v = 0 ∧ b.s = 0)
  | [], _, _, _, h => by cases h
  | c :: r, pre, h, b, hb => by
    rw [List.map_cons, Ck.bodsOk, Bool.and_eq_true] at h
    rcases List.mem_cons.1 hb with rfl | hb
    · have h1 := h.1
      simp only [Ck.Bod.bad, Bool.not_eq_true', Bool.or_eq_false_iff] at h1
      refine ⟨(by simpa using h1.1 : (bdC b).ok = true), fun ho => ?_⟩
      have h2 := h1.2.2
      have ho' : (bdC b).out = true := ho
      rw [ho', Bool.true_and] at h2
      simp only [Bool.or_eq_false_iff, Bool.not_eq_false', Ck.Bod.rests, Bool.and_eq_true, beq_iff_eq, bne_eq_false_iff_eq] at h2
      exact ⟨h2.1.1, h2.1.2, h2.2⟩
    · exact bods_mem r _ h.2 b hb
theorem scn_len {l : List BdI} (h : sceB l = true) : l.length ≤ 16 := by
  rw [scnB_eq] at h
  unfold Ck.sceneB at h
  rw [Bool.and_eq_true, decide_eq_true_eq, List.length_map] at h
  exact h.1
theorem scn_mem {l : List BdI} (h : sceB l = true) : ∀ b ∈ l, bdOk b = true ∧ (b.o = true → b.u = 0 ∧ b.v = 0 ∧ b.s = 0) := by
  rw [scnB_eq] at h
  unfold Ck.sceneB at h
  rw [Bool.and_eq_true] at h
  exact bods_mem l [] h.2
theorem getD_mem {X : Type} {l : List X} {i : Nat} (d : X) (h : i < l.length) : l.getD i d ∈ l := by
  rw [List.getD_eq_getElem?_getD, List.getElem?_eq_getElem h]; exact List.getElem_mem h
theorem rgB_iff {v m : Int} : rgB v m = true ↔ -m ≤ v ∧ v ≤ m := by simp only [rgB, Bool.and_eq_true, decide_eq_true_eq]
theorem bdOk_in {b : BdI} (h : bdOk b = true) : (0 ≤ b.1 ∧ b.1 ≤ 1) ∧ (0 ≤ b.2.1 ∧ b.2.1 ≤ 7) ∧ (-6553600000 ≤ b.x ∧ b.x ≤ 6553600000) ∧ (-6553600000 ≤ b.y ∧ b.y ≤ 6553600000) ∧ (-65536000 ≤ b.u ∧ b.u ≤ 65536000) ∧ (-65536000 ≤ b.v ∧ b.v ≤ 65536000) ∧ (-1000 ≤ b.s ∧ b.s ≤ 1000) := by
  simp only [bdOk, bodB, movC, Bool.and_eq_true, decide_eq_true_eq, rgB_iff] at h
  obtain ⟨⟨h1, h2⟩, ⟨⟨⟨h3, h4⟩, h5⟩, h6⟩, h7⟩ := h
  exact ⟨h1, h2, h3, h4, h5, h6, h7⟩
/-! Momentum. -/
def smU (l : List BdI) : Nat → Int
  | 0 => 0
  | i + 1 => smU l i + (l.getD i bdD).u
def smV (l : List BdI) : Nat → Int
  | 0 => 0
  | i + 1 => smV l i + (l.getD i bdD).v
theorem sm_in {l : List BdI} (h : sceB l = true) : ∀ i, i ≤ l.length → (-(65536000 * (i : Int)) ≤ smU l i ∧ smU l i ≤ 65536000 * (i : Int)) ∧ (-(65536000 * (i : Int)) ≤ smV l i ∧ smV l i ≤ 65536000 * (i : Int))
  | 0, _ => by simp [smU, smV]
  | i + 1, hi => by
    have ih := sm_in h i (by omega)
    have hb := bdOk_in (scn_mem h _ (getD_mem bdD (show i < l.length by omega))).1
    simp only [smU, smV]
    omega
theorem pl_eq {x y u v : Int} (h : (-35184372088832 ≤ x ∧ x ≤ 35184372088832) ∧ (-35184372088832 ≤ y ∧ y ≤ 35184372088832) ∧ (-35184372088832 ≤ u ∧ u ≤ 35184372088832) ∧ (-35184372088832 ≤ v ∧ v ≤ 35184372088832)) : plX x y u v = x + u ∧ plY x y u v = y + v ∧ plE x y u v = 0 := by
  have hab : ∀ n : Int, -70368744177664 ≤ n ∧ n ≤ 70368744177664 → fxB (ab n) = true := fun n hn => by
    simp only [fxB, decide_eq_true_eq]
    first | (unfold ab; split <;> omega) | (unfold ab ngB; cases hh : decide (n < 0) <;> simp at hh ⊢ <;> omega)
  have h4 : four x y u v = true := by
    simp only [four, okB, Bool.and_eq_true, decide_eq_true_eq]; omega
  simp only [plX, plY, plE, plP, two2, h4, hab (x + u) (by omega), hab (y + v) (by omega), Bool.and_self, cond_true, and_self]
def cmF {α : Type} (l : List BdI) (x : Int × Int × Int × Unit) : Option (LRes (Int × Int × Int × Unit) α) :=
  bif decide (x.1 < (l.length : Int)) then
    if 0 ≤ x.1 ∧ x.1 < (l.length : Int) then
      bif plE x.2.1 x.2.2.1 (l.getD x.1.toNat bdD).u (l.getD x.1.toNat bdD).v == 0 then
        some (.cont (IntKind.i64.wrap (x.1 + 1), plX x.2.1 x.2.2.1 (l.getD x.1.toNat bdD).u (l.getD x.1.toNat bdD).v, plY x.2.1 x.2.2.1 (l.getD x.1.toNat bdD).u (l.getD x.1.toNat bdD).v, ()))
      else none
    else none
  else some (.brk 0 (x.1, x.2.1, x.2.2.1, ()))
set_option maxRecDepth 100000 in
theorem cmom_text (N n0 : Nat) (α : Type) (l : List BdI) (k : AOut → Option α) : evFn real tab ((twY fsC0 spG).env real tab N (n0 + 8)) N Tryz.f8 α [.ro (.recd (.cons (.int .i64) (.cons (.int .i64) (.cons (.recd (.cons (.recd (.cons (.int .i64) (.cons (.int .i64) .nil))) (.cons (.recd (.cons (.int .i64) (.cons (.int .i64) .nil))) (.cons (.int .i64) .nil)))) (.cons .bool .nil))))) l] k =
 bif sceE l != 0 then k (.ret (.tup [.agg [iN 0, iN 0], iN (sceE l)])) else afterL (iterL N (cmF l) (0, 0, 0, ())) fun id y => if id = 0 then k (.ret (.tup [.agg [iN y.2.1, iN
 y.2.2.1], iN 0])) else none := by kernel_rfl
theorem cm_loop {α : Type} {l : List BdI} (h : sceB l = true) (K : Nat → Int × Int × Int × Unit → Option α) : afterL (iterL (l.length + 1) (cmF l) (0, 0, 0, ())) K = K 0 ((l.length : Int), smU l l.length, smV l l.length, ()) := by
  refine count_loop (f := cmF l) (fun i : Nat => ((i : Int), smU l i, smV l i, ())) l.length (fun i hi => ?_) ?_ (by omega)
  · have hl := scn_len h
    have a := sm_in h i (by omega)
    have hb := bdOk_in (scn_mem h _ (getD_mem bdD hi)).1
    obtain ⟨e1, e2, e3⟩ := pl_eq (x := smU l i) (y := smV l i) (u := (l.getD i bdD).u) (v := (l.getD i bdD).v) (by omega)
    unfold cmF
    simp only [lt_len hi, cond_true, in_len hi, if_pos, and_self, decide_true, Int.toNat_natCast, wrap_next hi (by have : maxLen = 9223372036854775807 := rfl; omega), e1, e2, e3, smU, smV]
    rfl
  · unfold cmF
    simp only [not_lt_len, cond_false]
theorem scnE_eq (l : List BdI) : sceE l = bif sceB l then 0 else 2 := rfl
theorem cmom_fin (l : List BdI) (hs : ∀ qSm ∈ ([.ro (.recd (.cons (.int .i64) (.cons (.int .i64) (.cons (.recd (.cons (.recd (.cons (.int .i64) (.cons (.int .i64) .nil))) (.cons (.recd (.cons (.int .i64) (.cons (.int .i64) .nil))) (.cons (.int .i64) .nil)))) (.cons .bool .nil))))) l] : List AVal), Sm qSm) : ∃ N n, ∀ α (k : AOut → Option α), evFn real tab ((twY fsC0 spG).env real tab N n) N Tryz.f8 α [.ro (.recd (.cons (.int .i64) (.cons (.int .i64) (.cons (.recd (.cons (.recd (.cons (.int .i64) (.cons (.int .i64) .nil))) (.cons (.recd (.cons (.int .i64) (.cons (.int .i64) .nil))) (.cons (.int .i64) .nil)))) (.cons .bool .nil))))) l] k = k (.ret (.tup [.agg [iN (selI (sceB l) (smU l l.length)), iN (selI (sceB l) (smV l l.length))], iN (sceE l)])) := by
  refine ⟨l.length + 1, 8, fun α k => (cmom_text _ 0 α l k).trans ?_⟩
  rw [scnE_eq]
  cases h : sceB l
  · rfl
  · exact cm_loop h _
noncomputable def cmomS : Fsp := fun _ args k => match args with
  | [.ro (.recd (.cons (.int .i64) (.cons (.int .i64) (.cons (.recd (.cons (.recd (.cons (.int .i64) (.cons (.int .i64) .nil))) (.cons (.recd (.cons (.int .i64) (.cons (.int .i64) .nil))) (.cons (.int .i64) .nil)))) (.cons .bool .nil))))) l] => k (.ret (.tup [.agg [iN (selI (sceB l) (smU l l.length)), iN (selI (sceB l) (smV l l.length))], iN (sceE l)]))
  | _ => none
theorem cmomS_ok : FspOk Tryz.prog 8 cmomS := tower_Y fsC0_ok spG_ok ⟨Tryz.func8, fun _ _ => by kernel_rfl⟩ (by intro α args k; unfold cmomS; split <;> rfl) fun args out hSm hEq => by
  unfold cmomS at hEq
  split at hEq
  · rename_i l
    obtain ⟨N, n, e⟩ := cmom_fin l hSm
    exact ⟨N, n, (e AOut some).trans hEq⟩
  · cases hEq
/-! Still. -/
def mvg (b : BdI) : Bool := !b.o && !(b.u == 0 && (b.v == 0 && true))
abbrev Bd1 := BdI × Unit
def b1D : Bd1 := (bdD, ())
def csF {α : Type} (l : List BdI) (x : List Bd1 × Int × Unit) : Option (LRes (List Bd1 × Int × Unit) α) :=
  bif decide (x.2.1 < (l.length : Int)) then
    if 0 ≤ x.2.1 ∧ x.2.1 < (l.length : Int) then
      if (x.1.length + [(l.getD x.2.1.toNat bdD, ())].length) * 64 ≤ room then some (.cont (x.1 ++ [(l.getD x.2.1.toNat bdD, ())], IntKind.i64.wrap (x.2.1 + 1), ())) else none
    else none
  else some (.brk 0 (x.1, x.2.1, ()))
def csG {α : Type} (l : List Bd1) (k : Int → Option α) (x : Int × Unit) : Option (LRes (Int × Unit) α) :=
  bif decide (x.1 < (l.length : Int)) then
    if 0 ≤ x.1 ∧ x.1 < (l.length : Int) then
      bif !(l.getD x.1.toNat b1D).1.o then
        bif !((l.getD x.1.toNat b1D).1.u == 0 && ((l.getD x.1.toNat b1D).1.v == 0 && true)) then finL (k x.1)
        else some (.cont (IntKind.i64.wrap (x.1 + 1), ()))
      else some (.cont (IntKind.i64.wrap (x.1 + 1), ()))
    else none
  else some (.brk 0 (x.1, ()))
set_option maxRecDepth 100000 in
theorem cstill_text (N n0 : Nat) (α : Type) (l : List BdI) (k : AOut → Option α) : evFn real tab ((twY fsC0 spG).env real tab N (n0 + 8)) N Tryz.f9 α [.ro (.recd (.cons (.int .i64) (.cons (.int .i64) (.cons (.recd (.cons (.recd (.cons (.int .i64) (.cons (.int .i64) .nil))) (.cons (.recd (.cons (.int .i64) (.cons (.int .i64) .nil))) (.cons (.int .i64) .nil)))) (.cons .bool .nil))))) l] k =
 bif sceE l != 0 then k (.ret (.tup [.bool false, iN (sceE l)])) else afterL (iterL N (csF l) ([], 0, ())) fun id y => if id = 0 then afterL (iterL N (csG y.1 fun i => k (.ret (.tup
 [.bool !decide (i ≥ 0), iN 0]))) (0, ())) fun id _ => if id = 0 then k (.ret (.tup [.bool !decide ((-1 : Int) ≥ 0), iN 0])) else none else none := by kernel_rfl
def w1 (b : BdI) : Bd1 := (b, ())
theorem cs_loop {α : Type} {l : List BdI} (h : l.length ≤ 20) (K : Nat → List Bd1 × Int × Unit → Option α) : afterL (iterL (l.length + 1) (csF l) ([], 0, ())) K = K 0 (l.map w1, (l.length : Int), ()) := by
  have hroom : room ≥ 10000 := by decide
  have e : l.map w1 = fmL (fun _ => true) w1 bdD l l.length := by rw [fmL_all, List.filter_eq_self.2 fun _ _ => rfl]
  rw [e]
  refine count_loop (f := csF l) (fun i : Nat => (fmL (fun _ => true) w1 bdD l i, (i : Int), ())) l.length (fun i hi => ?_) ?_ (by omega)
  · have hl := fmL_len (fun _ => true) w1 bdD l i
    unfold csF
    simp only [lt_len hi, cond_true, in_len hi, if_pos, and_self, decide_true, Int.toNat_natCast, wrap_next hi (by have : maxLen = 9223372036854775807 := rfl; omega), List.length_singleton]
    rw [if_pos (by omega)]
    rfl
  · unfold csF
    simp only [not_lt_len, cond_false]
theorem cs_any {α : Type} (l : List BdI) (h : l.length ≤ 20) (R : Bool → Option α) :
    afterL (iterL (l.length + 1) (csG (l.map w1) fun i => R !decide (i ≥ 0)) (0, ())) (fun id _ => if id = 0 then R (!decide ((-1 : Int) ≥ 0)) else none) = R !(l.any mvg) := by
  have hg : ∀ i, i < l.length → ((l.map w1).getD i b1D).1 = l.getD i bdD := fun i hi => by
    rw [List.getD_eq_getElem?_getD, List.getD_eq_getElem?_getD, List.getElem?_map, List.getElem?_eq_getElem hi]; rfl
  have hlm : (l.map w1).length = l.length := List.length_map _
  refine (any_loop (f := csG (l.map w1) fun i => R !decide (i ≥ 0)) (fun i : Nat => ((i : Int), ())) l.length (fun i => mvg (l.getD i bdD)) (R false) (fun i hi => ?_) (y := ((l.length : Int), ())) (b := 0) ?_).trans ?_
  · unfold csG
    simp only [hlm, lt_len hi, cond_true, in_len hi, if_pos, and_self, decide_true, Int.toNat_natCast, wrap_next hi (by have : maxLen = 9223372036854775807 := rfl; omega), hg i hi, mvg]
    have : decide ((i : Int) ≥ 0) = true := decide_eq_true (by omega)
    try rw [this]
    cases (l.getD i bdD).o <;> cases ((l.getD i bdD).u == 0 && ((l.getD i bdD).v == 0 && true)) <;> rfl
  · unfold csG
    simp only [hlm, not_lt_len, cond_false]
  · rw [any_rangeX]
    cases l.any mvg <;> rfl
theorem cstill_fin (l : List BdI) (hs : ∀ qSm ∈ ([.ro (.recd (.cons (.int .i64) (.cons (.int .i64) (.cons (.recd (.cons (.recd (.cons (.int .i64) (.cons (.int .i64) .nil))) (.cons (.recd (.cons (.int .i64) (.cons (.int .i64) .nil))) (.cons (.int .i64) .nil)))) (.cons .bool .nil))))) l] : List AVal), Sm qSm) : ∃ N n, ∀ α (k : AOut → Option α), evFn real tab ((twY fsC0 spG).env real tab N n) N Tryz.f9 α [.ro (.recd (.cons (.int .i64) (.cons (.int .i64) (.cons (.recd (.cons (.recd (.cons (.int .i64) (.cons (.int .i64) .nil))) (.cons (.recd (.cons (.int .i64) (.cons (.int .i64) .nil))) (.cons (.int .i64) .nil)))) (.cons .bool .nil))))) l] k = k (.ret (.tup [.bool (sceB l && !(l.any mvg)), iN (sceE l)])) := by
  refine ⟨l.length + 1, 8, fun α k => (cstill_text _ 0 α l k).trans ?_⟩
  rw [scnE_eq]
  cases h : sceB l
  · rfl
  · have hl := scn_len h
    refine (cs_loop (by omega) _).trans ?_
    exact cs_any l (by omega) fun b => k (.ret (.tup [.bool b, iN 0]))
noncomputable def cstillS : Fsp := fun _ args k => match args with
  | [.ro (.recd (.cons (.int .i64) (.cons (.int .i64) (.cons (.recd (.cons (.recd (.cons (.int .i64) (.cons (.int .i64) .nil))) (.cons (.recd (.cons (.int .i64) (.cons (.int .i64) .nil))) (.cons (.int .i64) .nil)))) (.cons .bool .nil))))) l] => k (.ret (.tup [.bool (sceB l && !(l.any mvg)), iN (sceE l)]))
  | _ => none
theorem cstillS_ok : FspOk Tryz.prog 9 cstillS := tower_Y fsC0_ok spG_ok ⟨Tryz.func9, fun _ _ => by kernel_rfl⟩ (by intro α args k; unfold cstillS; split <;> rfl) fun args out hSm hEq => by
  unfold cstillS at hEq
  split at hEq
  · rename_i l
    obtain ⟨N, n, e⟩ := cstill_fin l hSm
    exact ⟨N, n, (e AOut some).trans hEq⟩
  · cases hEq
/-! Stones. -/
def stOf (b : BdI) : StI := (b.1, b.2.1, (b.x, b.y, ()), ())
def ctF {α : Type} (l : List BdI) (x : List StI × Int × Unit) : Option (LRes (List StI × Int × Unit) α) :=
  bif decide (x.2.1 < (l.length : Int)) then
    if 0 ≤ x.2.1 ∧ x.2.1 < (l.length : Int) then
      bif !(l.getD x.2.1.toNat bdD).o then
        if (x.1.length + [stOf (l.getD x.2.1.toNat bdD)].length) * 32 ≤ room then some (.cont (x.1 ++ [stOf (l.getD x.2.1.toNat bdD)], IntKind.i64.wrap (x.2.1 + 1), ())) else none
      else some (.cont (x.1, IntKind.i64.wrap (x.2.1 + 1), ()))
    else none
  else some (.brk 0 (x.1, x.2.1, ()))
abbrev stO (l : List StI) (e : Int) : AOut := .ret (.tup [.ro (.recd (.cons (.int .i64) (.cons (.int .i64) (.cons (.recd (.cons (.int .i64) (.cons (.int .i64) .nil))) .nil)))) l, iN e])
set_option maxRecDepth 100000 in
theorem cstn_text (N n0 : Nat) (α : Type) (l : List BdI) (k : AOut → Option α) : evFn real tab ((twY fsC0 spG).env real tab N (n0 + 8)) N Tryz.f7 α [.ro (.recd (.cons (.int .i64) (.cons (.int .i64) (.cons (.recd (.cons (.recd (.cons (.int .i64) (.cons (.int .i64) .nil))) (.cons (.recd (.cons (.int .i64) (.cons (.int .i64) .nil))) (.cons (.int .i64) .nil)))) (.cons .bool .nil))))) l] k =
 bif sceE l != 0 then k (stO [] (sceE l)) else afterL (iterL N (ctF l) ([], 0, ())) fun id y => if id = 0 then k (stO y.1 0) else none := by kernel_rfl
def stnL (l : List BdI) : List StI := (l.filter fun b => !b.o).map stOf
theorem ct_loop {α : Type} {l : List BdI} (h : l.length ≤ 20) (K : Nat → List StI × Int × Unit → Option α) : afterL (iterL (l.length + 1) (ctF l) ([], 0, ())) K = K 0 (stnL l, (l.length : Int), ()) := by
  have hroom : room ≥ 10000 := by decide
  unfold stnL
  rw [← fmL_all (fun b => !b.o) stOf bdD]
  refine count_loop (f := ctF l) (fun i : Nat => (fmL (fun b : BdI => !b.o) stOf bdD l i, (i : Int), ())) l.length (fun i hi => ?_) ?_ (by omega)
  · have hl := fmL_len (fun b : BdI => !b.o) stOf bdD l i
    unfold ctF
    simp only [lt_len hi, cond_true, in_len hi, if_pos, and_self, decide_true, Int.toNat_natCast, wrap_next hi (by have : maxLen = 9223372036854775807 := rfl; omega), List.length_singleton, fmL]
    cases (l.getD i bdD).o
    · simp only [Bool.not_false, cond_true]
      rw [if_pos (by omega)]
    · rfl
  · unfold ctF
    simp only [not_lt_len, cond_false]
def selX {X : Type} (c : Bool) (l : List X) : List X := bif c then l else []
theorem cstn_fin (l : List BdI) (hs : ∀ qSm ∈ ([.ro (.recd (.cons (.int .i64) (.cons (.int .i64) (.cons (.recd (.cons (.recd (.cons (.int .i64) (.cons (.int .i64) .nil))) (.cons (.recd (.cons (.int .i64) (.cons (.int .i64) .nil))) (.cons (.int .i64) .nil)))) (.cons .bool .nil))))) l] : List AVal), Sm qSm) : ∃ N n, ∀ α (k : AOut → Option α), evFn real tab ((twY fsC0 spG).env real tab N n) N Tryz.f7 α [.ro (.recd (.cons (.int .i64) (.cons (.int .i64) (.cons (.recd (.cons (.recd (.cons (.int .i64) (.cons (.int .i64) .nil))) (.cons (.recd (.cons (.int .i64) (.cons (.int .i64) .nil))) (.cons (.int .i64) .nil)))) (.cons .bool .nil))))) l] k = k (stO (selX (sceB l) (stnL l)) (sceE l)) := by
  refine ⟨l.length + 1, 8, fun α k => (cstn_text _ 0 α l k).trans ?_⟩
  rw [scnE_eq]
  cases h : sceB l
  · rfl
  · have hl := scn_len h
    exact ct_loop (by omega) _
noncomputable def cstnS : Fsp := fun _ args k => match args with
  | [.ro (.recd (.cons (.int .i64) (.cons (.int .i64) (.cons (.recd (.cons (.recd (.cons (.int .i64) (.cons (.int .i64) .nil))) (.cons (.recd (.cons (.int .i64) (.cons (.int .i64) .nil))) (.cons (.int .i64) .nil)))) (.cons .bool .nil))))) l] => k (stO (selX (sceB l) (stnL l)) (sceE l))
  | _ => none
theorem cstnS_ok : FspOk Tryz.prog 7 cstnS := tower_Y fsC0_ok spG_ok ⟨Tryz.func7, fun _ _ => by kernel_rfl⟩ (by intro α args k; unfold cstnS; split <;> rfl) fun args out hSm hEq => by
  unfold cstnS at hEq
  split at hEq
  · rename_i l
    obtain ⟨N, n, e⟩ := cstn_fin l hSm
    exact ⟨N, n, (e AOut some).trans hEq⟩
  · cases hEq
/-! Place. -/
def bdSt (s : StI) : BdI := (s.1, s.2.1, ((s.2.2.1.1, s.2.2.1.2.1, ()), (0, 0, ()), 0, ()), false, ())
def cpF {α : Type} (l : List StI) (x : List BdI × Int × Unit) : Option (LRes (List BdI × Int × Unit) α) :=
  bif decide (x.2.1 < (l.length : Int)) then
    if 0 ≤ x.2.1 ∧ x.2.1 < (l.length : Int) then
      if (x.1.length + [bdSt (l.getD x.2.1.toNat stD)].length) * 64 ≤ room then some (.cont (x.1 ++ [bdSt (l.getD x.2.1.toNat stD)], IntKind.i64.wrap (x.2.1 + 1), ())) else none
    else none
  else some (.brk 0 (x.1, x.2.1, ()))
abbrev bdsO (l : List BdI) (e : Int) : AOut := .ret (.tup [.ro (.recd (.cons (.int .i64) (.cons (.int .i64) (.cons (.recd (.cons (.recd (.cons (.int .i64) (.cons (.int .i64) .nil))) (.cons (.recd (.cons (.int .i64) (.cons (.int .i64) .nil))) (.cons (.int .i64) .nil)))) (.cons .bool .nil))))) l, iN e])
set_option maxRecDepth 100000 in
theorem cplc_text (N n0 : Nat) (α : Type) (l : List StI) (k : AOut → Option α) : evFn real tab ((twY fsC0 spG).env real tab N (n0 + 8)) N Tryz.f6 α [.ro (.recd (.cons (.int .i64) (.cons (.int .i64) (.cons (.recd (.cons (.int .i64) (.cons (.int .i64) .nil))) .nil)))) l] k =
 bif decide ((l.length : Int) > 16) then k (bdsO [] 3) else afterL (iterL N (cpF l) ([], 0, ())) fun id y => if id = 0 then (bif sceE y.1 != 0 then k (bdsO [] (sceE y.1)) else k
 (bdsO y.1 0)) else none := by kernel_rfl
theorem cp_loop {α : Type} {l : List StI} (h : l.length ≤ 20) (K : Nat → List BdI × Int × Unit → Option α) : afterL (iterL (l.length + 1) (cpF l) ([], 0, ())) K = K 0 (l.map bdSt, (l.length : Int), ()) := by
  have hroom : room ≥ 10000 := by decide
  have e : l.map bdSt = fmL (fun _ => true) bdSt stD l l.length := by rw [fmL_all, List.filter_eq_self.2 fun _ _ => rfl]
  rw [e]
  refine count_loop (f := cpF l) (fun i : Nat => (fmL (fun _ => true) bdSt stD l i, (i : Int), ())) l.length (fun i hi => ?_) ?_ (by omega)
  · have hl := fmL_len (fun _ => true) bdSt stD l i
    unfold cpF
    simp only [lt_len hi, cond_true, in_len hi, if_pos, and_self, decide_true, Int.toNat_natCast, wrap_next hi (by have : maxLen = 9223372036854775807 := rfl; omega), List.length_singleton]
    rw [if_pos (by omega)]
    rfl
  · unfold cpF
    simp only [not_lt_len, cond_false]
def plcE (l : List StI) : Int := bif decide ((l.length : Int) > 16) then 3 else sceE (l.map bdSt)
theorem plcE_eq (l : List StI) : plcE l = bif decide ((l.length : Int) > 16) then 3 else bif sceB (l.map bdSt) then 0 else 2 := by
  unfold plcE; rw [scnE_eq]
theorem cplc_fin (l : List StI) (hs : ∀ qSm ∈ ([.ro (.recd (.cons (.int .i64) (.cons (.int .i64) (.cons (.recd (.cons (.int .i64) (.cons (.int .i64) .nil))) .nil)))) l] : List AVal), Sm qSm) : ∃ N n, ∀ α (k : AOut → Option α), evFn real tab ((twY fsC0 spG).env real tab N n) N Tryz.f6 α [.ro (.recd (.cons (.int .i64) (.cons (.int .i64) (.cons (.recd (.cons (.int .i64) (.cons (.int .i64) .nil))) .nil)))) l] k = k (bdsO (selX (plcE l == 0) (l.map bdSt)) (plcE l)) := by
  refine ⟨l.length + 1, 8, fun α k => (cplc_text _ 0 α l k).trans ?_⟩
  rw [plcE_eq]
  cases h : decide ((l.length : Int) > 16)
  · have hl := of_decide_eq_false h
    refine (cp_loop (by omega) _).trans ?_
    simp only [cond_false, scnE_eq, if_true]
    cases h : sceB (l.map bdSt) <;> rfl
  · rfl
noncomputable def cplcS : Fsp := fun _ args k => match args with
  | [.ro (.recd (.cons (.int .i64) (.cons (.int .i64) (.cons (.recd (.cons (.int .i64) (.cons (.int .i64) .nil))) .nil)))) l] => k (bdsO (selX (plcE l == 0) (l.map bdSt)) (plcE l))
  | _ => none
theorem cplcS_ok : FspOk Tryz.prog 6 cplcS := tower_Y fsC0_ok spG_ok ⟨Tryz.func6, fun _ _ => by kernel_rfl⟩ (by intro α args k; unfold cplcS; split <;> rfl) fun args out hSm hEq => by
  unfold cplcS at hEq
  split at hEq
  · rename_i l
    obtain ⟨N, n, e⟩ := cplc_fin l hSm
    exact ⟨N, n, (e AOut some).trans hEq⟩
  · cases hEq
noncomputable def fsC1 : FuncId → Option Fsp := fun g =>
  if g = 8 then some cmomS else
  if g = 9 then some cstillS else
  if g = 7 then some cstnS else
  if g = 6 then some cplcS else
  fsC0 g
theorem fsC1_ok : FsOk fsC1 :=
  fs_cons cmomS_ok <|
  fs_cons cstillS_ok <|
  fs_cons cstnS_ok <|
  fs_cons cplcS_ok <|
  fsC0_ok
end Go.Proofs.YtopfebbijnhpfaaGreat

namespace Go.Proofs.YtopfebbijnhpfaaGreat
end Go.Proofs.YtopfebbijnhpfaaGreat

namespace Go.Proofs.YtopfebbijnhpfaaGreat
/-! Products. -/
/-! Sums. -/
/-! Differences. -/
end Go.Proofs.YtopfebbijnhpfaaGreat

namespace Go.Proofs.YtopfebbijnhpfaaGreat
end Go.Proofs.YtopfebbijnhpfaaGreat

namespace Go.Proofs.YtopfebbijnhpfaaGreat
open Go.RowKit
def l1 (l : List Int) : AOut := .ret (.ro (.int .i64) l)
end Go.Proofs.YtopfebbijnhpfaaGreat

namespace Go.Proofs.YtopfebbijnhpfaaGreat
open Go.RowKit
/-! Sums. -/
section
variable {σ α : Type}
end
end Go.Proofs.YtopfebbijnhpfaaGreat

namespace Go.Proofs.YtopfebbijnhpfaaGreat
open Go.RowKit
def fnA : FuncId → Option Fsp := fun g =>
  none
theorem fnA_ok : FsOk fnA :=
  fs_nil
section
variable {α : Type}
end
/-! Products. -/
end Go.Proofs.YtopfebbijnhpfaaGreat

namespace Go.Proofs.YtopfebbijnhpfaaGreat
open Go.RowKit
def fnB : FuncId → Option Fsp := fun g =>
  fnA g
theorem fnB_ok : FsOk fnB :=
  fnA_ok
section
variable {α : Type} (N : Nat) (b R : List Int)
end
end Go.Proofs.YtopfebbijnhpfaaGreat

namespace Go.Proofs.YtopfebbijnhpfaaGreat
open Go.RowKit
def fnC : FuncId → Option Fsp := fun g =>
  fnB g
theorem fnC_ok : FsOk fnC :=
  fnB_ok
section
variable {α : Type}
end
def fnD : FuncId → Option Fsp := fun g =>
  fnC g
theorem fnD_ok : FsOk fnD :=
  fnC_ok
end Go.Proofs.YtopfebbijnhpfaaGreat

namespace Go.Proofs.YtopfebbijnhpfaaGreat
open Go.RowKit
/-! Shares. -/
section
variable {α : Type} (N : Nat) (X : Int) (a : List Int)
end
/-! Numbers with a sign. -/
end Go.Proofs.YtopfebbijnhpfaaGreat

namespace Go.Proofs.YtopfebbijnhpfaaGreat
open Go.RowKit
def fnE : FuncId → Option Fsp := fun g =>
  fnD g
theorem fnE_ok : FsOk fnE :=
  fnD_ok
def fnF : FuncId → Option Fsp := fun g =>
  fnE g
theorem fnF_ok : FsOk fnF :=
  fnE_ok
def fnG : FuncId → Option Fsp := fun g =>
  fnF g
theorem fnG_ok : FsOk fnG :=
  fnF_ok
def fnH : FuncId → Option Fsp := fun g =>
  fnG g
theorem fnH_ok : FsOk fnH :=
  fnG_ok
def fnI : FuncId → Option Fsp := fun g =>
  fnH g
theorem fnI_ok : FsOk fnI :=
  fnH_ok
noncomputable def fnJ : FuncId → Option Fsp := fun g =>
  fnI g
theorem fnJ_ok : FsOk fnJ :=
  fnI_ok
/-! Within. -/
/-! Unit. -/
end Go.Proofs.YtopfebbijnhpfaaGreat

namespace Go.Proofs.YtopfebbijnhpfaaGreat
open Go.RowKit
noncomputable def fnK : FuncId → Option Fsp := fun g =>
  fnJ g
theorem fnK_ok : FsOk fnK :=
  fnJ_ok
end Go.Proofs.YtopfebbijnhpfaaGreat

namespace Go.Proofs.YtopfebbijnhpfaaGreat
open Go.RowKit
/-! Products of spots. -/
end Go.Proofs.YtopfebbijnhpfaaGreat

namespace Go.Proofs.YtopfebbijnhpfaaGreat
open Go.RowKit
noncomputable def fnL : FuncId → Option Fsp := fun g =>
  fnK g
theorem fnL_ok : FsOk fnL :=
  fnK_ok
end Go.Proofs.YtopfebbijnhpfaaGreat

namespace Go.Proofs.YtopfebbijnhpfaaGreat
open Go.RowKit
end Go.Proofs.YtopfebbijnhpfaaGreat

namespace Go.Proofs.YtopfebbijnhpfaaGreat
open Go.RowKit
end Go.Proofs.YtopfebbijnhpfaaGreat

namespace Go.Proofs.YtopfebbijnhpfaaGreat
open Go.RowKit
def gonB (x y : Int) : Bool := decide (x ≥ 146145280) || (decide (x ≤ -146145280) || (decide (y > 129368064) || decide (y < -1977417728)))
/-! A contact. -/
end Go.Proofs.YtopfebbijnhpfaaGreat

namespace Go.Proofs.YtopfebbijnhpfaaGreat
open Go.RowKit
def BdI.mv (b : BdI) (a c d e g : Int) : BdI := (b.1, b.2.1, ((a, c, ()), (d, e, ()), g, ()), b.o, ())
def BdI.sp (b : BdI) (d e : Int) : BdI := (b.1, b.2.1, ((b.x, b.y, ()), (d, e, ()), b.s, ()), b.o, ())
def BdI.off (b : BdI) : BdI := (b.1, b.2.1, ((b.x, b.y, ()), (0, 0, ()), 0, ()), true, ())
end Go.Proofs.YtopfebbijnhpfaaGreat

namespace Go.Proofs.YtopfebbijnhpfaaGreat
open Go.RowKit
def mustMS : Fsp := fun _ args k => match args with
  | [.agg [.int .i64 a, .int .i64 b, .int .i64 c, .int .i64 d, .int .i64 g], .int .i64 e] => bif e != 0 then k (comis e) else k (.ret (.agg [.int .i64 a, .int .i64 b, .int .i64 c, .int .i64 d, .int .i64 g]))
  | _ => none
theorem mustM_text (N n : Nat) (α : Type) (a b c d g e : Int) (k : AOut → Option α) : evFn real tab ((twY fsC1 spG).env real tab N (n + 4)) N Tryz.f98 α [.agg [.int .i64 a, .int .i64 b, .int .i64 c, .int .i64 d, .int .i64 g], iN e] k = bif e != 0 then k (comis e) else k (.ret (.agg [.int .i64 a, .int .i64 b, .int .i64 c, .int .i64 d, .int .i64 g])) := by kernel_rfl
theorem mustMS_ok : FspOk Tryz.prog 98 mustMS := tower_Y fsC1_ok spG_ok ⟨Tryz.func98, fun _ _ => by kernel_rfl⟩ (by intro α args k; unfold mustMS; split <;> simp only [cond_bind, Option.bind_some, Option.bind_none]) fun args out hs h => by
  unfold mustMS at h
  split at h
  · exact ⟨8, 4, (mustM_text 8 0 AOut _ _ _ _ _ _ some).trans h⟩
  · cases h
def mustIS : Fsp := fun _ args k => match args with
  | [.int .i64 a, .int .i64 e] => bif e != 0 then k (comis e) else k (i1 a)
  | _ => none
theorem mustI_text (N n : Nat) (α : Type) (a e : Int) (k : AOut → Option α) : evFn real tab ((twY fsC1 spG).env real tab N (n + 4)) N Tryz.f96 α [iN a, iN e] k = bif e != 0 then k (comis e) else k (i1 a) := by kernel_rfl
theorem mustIS_ok : FspOk Tryz.prog 96 mustIS := tower_Y fsC1_ok spG_ok ⟨Tryz.func96, fun _ _ => by kernel_rfl⟩ (by intro α args k; unfold mustIS; split <;> simp only [cond_bind, Option.bind_some, Option.bind_none]) fun args out hs h => by
  unfold mustIS at h
  split at h
  · exact ⟨8, 4, (mustI_text 8 0 AOut _ _ some).trans h⟩
  · cases h
def crestS : Fsp := fun _ args k => match args with
  | [.agg [.int .i64 _, .int .i64 _, .int .i64 _, .int .i64 _, .int .i64 u, .int .i64 v, .int .i64 _, .bool _]] => k (b1 (u == 0 && (v == 0 && true)))
  | _ => none
theorem crest_text (N n : Nat) (α : Type) (a b x y u v g : Int) (o : Bool) (k : AOut → Option α) : evFn real tab ((twY fsC1 spG).env real tab N (n + 4)) N Tryz.f31 α [.agg [.int .i64 a, .int .i64 b, .int .i64 x, .int .i64 y, .int .i64 u, .int .i64 v, .int .i64 g, .bool o]] k = k (b1 (u == 0 && (v == 0 && true))) := by kernel_rfl
theorem crestS_ok : FspOk Tryz.prog 31 crestS := tower_Y fsC1_ok spG_ok ⟨Tryz.func31, fun _ _ => by kernel_rfl⟩ (by intro α args k; unfold crestS; split <;> rfl) fun args out hs h => by
  unfold crestS at h
  split at h
  · exact ⟨8, 4, (crest_text 8 0 AOut _ _ _ _ _ _ _ _ some).trans h⟩
  · cases h
def cgoneS : Fsp := fun _ args k => match args with
  | [.agg [.int .i64 _, .int .i64 _, .int .i64 x, .int .i64 y, .int .i64 _, .int .i64 _, .int .i64 _, .bool _]] => bif rgB x 6553600000 then k (b1 (gonB x y)) else none
  | _ => none
theorem cgone_text (N n : Nat) (α : Type) (a b x y u v g : Int) (o : Bool) (k : AOut → Option α) : evFn real tab ((twY fsC1 spG).env real tab N (n + 4)) N Tryz.f67 α [.agg [.int .i64 a, .int .i64 b, .int .i64 x, .int .i64 y, .int .i64 u, .int .i64 v, .int .i64 g, .bool o]] k =
 bif decide ((if x < IntKind.i64.wrap (0 - x) then IntKind.i64.wrap (0 - x) else x) ≥ 146145280) then k (b1 true) else bif decide (y > 129368064) then k (b1 true) else k (b1 (decide
 (y < -1977417728))) := by kernel_rfl
theorem cgoneS_ok : FspOk Tryz.prog 67 cgoneS := tower_Y fsC1_ok spG_ok ⟨Tryz.func67, fun _ _ => by kernel_rfl⟩ (by intro α args k; unfold cgoneS; split <;> simp only [cond_bind, Option.bind_some, Option.bind_none]) fun args out hs h => by
  unfold cgoneS at h
  split at h
  · rename_i x y _ _ _ _
    refine ⟨8, 4, (cgone_text 8 0 AOut _ _ _ _ _ _ _ _ some).trans ?_⟩
    cases hr : rgB x 6553600000
    · rw [hr] at h; cases h
    · rw [hr, cond_true] at h
      rw [← h]
      have hx := rgB_iff.1 hr
      rw [i64_in (0 - x) (by omega)]
      have e : decide ((if x < 0 - x then 0 - x else x) ≥ 146145280) = (decide (x ≥ 146145280) || decide (x ≤ -146145280)) := by
        rw [Bool.eq_iff_iff]; simp only [Bool.or_eq_true, decide_eq_true_eq]; split <;> omega
      rw [e]
      unfold gonB
      cases decide (x ≥ 146145280) <;> cases decide (x ≤ -146145280) <;> cases decide (y > 129368064) <;> rfl
  · cases h
noncomputable def gTkS : Fsp := fun _ args k => match args with
  | [.agg [.int .i64 cx, .int .i64 cy, .int .i64 sd, .int .i64 w, .int .i64 h, .ro (.int .i64) pb, .ro (.int .i64) po], .agg [.int .i64 fl, .int .i64 ke, .int .i64 sw, .int .i64 be, .int .i64 we], .agg [.int .i64 ax, .int .i64 ay, .int .i64 vx, .int .i64 vy, .int .i64 sp], .int .i64 u] => bif rgtB cx cy sd w h pb po fl ke sw be we ax ay vx vy sp u then tkStep (slwV cx cy sd w h pb po fl ke sw be we ax ay) (bdvV cx cy sd w h pb po fl ke sw be we ax ay) ax ay vx vy sp u (fun a b c d e => k (.ret (.tup [.agg [.int .i64 a, .int .i64 b, .int .i64 c, .int .i64 d, .int .i64 e], iN 0]))) (k (.ret (.tup [.agg [iN 0, iN 0, iN 0, iN 0, iN 0], iN 4]))) else none
  | _ => none
theorem tkS_k {α : Type} (sl bd ax ay vx vy sp n : Int) (k : AOut → Option α) :
    tkStep sl bd ax ay vx vy sp n (fun a b c d e => k (.ret (.tup [.agg [.int .i64 a, .int .i64 b, .int .i64 c, .int .i64 d, .int .i64 e], iN 0]))) (k (.ret (.tup [.agg [iN 0, iN 0, iN 0, iN 0, iN 0], iN 4]))) = k (tkO true sl bd ax ay vx vy sp n) := by
  unfold tkO tsA tsB tsC tsD tsE tsZ tkStep selI
  cases tkR sl vx vy n <;> cases tkM sl bd ax ay vx vy sp n <;> rfl
theorem gTkS_ok : FspOk Tryz.prog 99 gTkS where
  enter := gTickS_ok.enter
  nat := by
    intro α args k
    unfold gTkS
    split
    · rename_i cx cy sd w h pb po fl ke sw be we ax ay vx vy sp u
      cases rgtB cx cy sd w h pb po fl ke sw be we ax ay vx vy sp u
      · rfl
      · simp only [cond_true, tkS_k]; rfl
    · rfl
  calls := fun args out hout => gTickS_ok.calls args out (by
    unfold gTkS at hout
    split at hout
    · rename_i cx cy sd w h pb po fl ke sw be we ax ay vx vy sp u
      cases hr : rgtB cx cy sd w h pb po fl ke sw be we ax ay vx vy sp u
      · rw [hr] at hout; cases hout
      · rw [hr, cond_true, tkS_k] at hout
        show some (tkO (rgtB cx cy sd w h pb po fl ke sw be we ax ay vx vy sp u) (slwV cx cy sd w h pb po fl ke sw be we ax ay) (bdvV cx cy sd w h pb po fl ke sw be we ax ay) ax ay vx vy sp u) = some out
        rw [hr]; exact hout
    · cases hout)
noncomputable def fsC2 : FuncId → Option Fsp := fun g =>
  if g = 48 then some (onlyS dotPS) else
  if g = 97 then some (onlyS gStrS) else
  if g = 99 then some gTkS else
  if g = 98 then some mustMS else
  if g = 96 then some mustIS else
  if g = 45 then some mustSS else
  if g = 47 then some mustFS else
  if g = 31 then some crestS else
  if g = 67 then some cgoneS else
  fsC1 g
theorem fsC2_ok : FsOk fsC2 :=
  fs_cons (only_ok dotPS_ok) <|
  fs_cons (only_ok gStrS_ok) <|
  fs_cons gTkS_ok <|
  fs_cons mustMS_ok <|
  fs_cons mustIS_ok <|
  fs_cons mustSS_ok <|
  fs_cons mustFS_ok <|
  fs_cons crestS_ok <|
  fs_cons cgoneS_ok <|
  fsC1_ok
end Go.Proofs.YtopfebbijnhpfaaGreat

namespace Go.Proofs.YtopfebbijnhpfaaGreat
open Go.RowKit
end Go.Proofs.YtopfebbijnhpfaaGreat

namespace Go.Proofs.YtopfebbijnhpfaaGreat
open Go.RowKit
def f1 (b : Bd1) : BdI := b.1
def cbF {α : Type} (l : List Bd1) (x : List BdI × Int × Unit) : Option (LRes (List BdI × Int × Unit) α) :=
  bif decide (x.2.1 < (l.length : Int)) then
    if 0 ≤ x.2.1 ∧ x.2.1 < (l.length : Int) then
      if (x.1.length + [(l.getD x.2.1.toNat b1D).1].length) * 64 ≤ room then some (.cont (x.1 ++ [(l.getD x.2.1.toNat b1D).1], IntKind.i64.wrap (x.2.1 + 1), ())) else none
    else none
  else some (.brk 0 (x.1, x.2.1, ()))
set_option maxRecDepth 100000 in
theorem cbod_text (N n0 : Nat) (α : Type) (l : List Bd1) (k : AOut → Option α) : evFn real tab ((twY fsC2 spG).env real tab N (n0 + 8)) N Tryz.f26 α [.ro (.recd (.cons (.recd (.cons (.int .i64) (.cons (.int .i64) (.cons (.recd (.cons (.recd (.cons (.int .i64) (.cons (.int .i64) .nil))) (.cons (.recd (.cons (.int .i64) (.cons (.int .i64) .nil))) (.cons (.int .i64) .nil)))) (.cons .bool .nil))))) .nil)) l] k =
 afterL (iterL N (cbF l) ([], 0, ())) fun id y => if id = 0 then k (.ret (.ro (.recd (.cons (.int .i64) (.cons (.int .i64) (.cons (.recd (.cons (.recd (.cons (.int .i64) (.cons (.int
 .i64) .nil))) (.cons (.recd (.cons (.int .i64) (.cons (.int .i64) .nil))) (.cons (.int .i64) .nil)))) (.cons .bool .nil))))) y.1)) else none := by kernel_rfl
theorem cb_loop {α : Type} {l : List Bd1} (h : l.length ≤ 100) (K : Nat → List BdI × Int × Unit → Option α) : afterL (iterL (l.length + 1) (cbF l) ([], 0, ())) K = K 0 (l.map f1, (l.length : Int), ()) := by
  have hroom : room ≥ 10000 := by decide
  have e : l.map f1 = fmL (fun _ => true) f1 b1D l l.length := by rw [fmL_all, List.filter_eq_self.2 fun _ _ => rfl]
  rw [e]
  refine count_loop (f := cbF l) (fun i : Nat => (fmL (fun _ => true) f1 b1D l i, (i : Int), ())) l.length (fun i hi => ?_) ?_ (by omega)
  · have hl := fmL_len (fun _ => true) f1 b1D l i
    unfold cbF
    simp only [lt_len hi, cond_true, in_len hi, if_pos, and_self, decide_true, Int.toNat_natCast, wrap_next hi (by have : maxLen = 9223372036854775807 := rfl; omega), List.length_singleton]
    rw [if_pos (by omega)]
    rfl
  · unfold cbF
    simp only [not_lt_len, cond_false]
def shortB {X : Type} (l : List X) : Bool := decide (l.length ≤ 100)
noncomputable def cbodS : Fsp := fun _ args k => match args with
  | [.ro (.recd (.cons (.recd (.cons (.int .i64) (.cons (.int .i64) (.cons (.recd (.cons (.recd (.cons (.int .i64) (.cons (.int .i64) .nil))) (.cons (.recd (.cons (.int .i64) (.cons (.int .i64) .nil))) (.cons (.int .i64) .nil)))) (.cons .bool .nil))))) .nil)) l] => bif shortB (X := Bd1) l then k (.ret (.ro (.recd (.cons (.int .i64) (.cons (.int .i64) (.cons (.recd (.cons (.recd (.cons (.int .i64) (.cons (.int .i64) .nil))) (.cons (.recd (.cons (.int .i64) (.cons (.int .i64) .nil))) (.cons (.int .i64) .nil)))) (.cons .bool .nil))))) (List.map (α := Bd1) f1 l))) else none
  | _ => none
theorem cbodS_ok : FspOk Tryz.prog 26 cbodS := tower_Y fsC2_ok spG_ok ⟨Tryz.func26, fun _ _ => by kernel_rfl⟩ (by intro α args k; unfold cbodS; split <;> simp only [cond_bind, Option.bind_some, Option.bind_none]) fun args out hs h => by
  unfold cbodS at h
  split at h
  · rename_i l
    cases hl : shortB (X := Bd1) l
    · rw [hl] at h; cases h
    · rw [hl, cond_true] at h
      have h100 : List.length (α := Bd1) l ≤ 100 := of_decide_eq_true hl
      exact ⟨List.length (α := Bd1) l + 1, 8, ((cbod_text _ 0 AOut l some).trans (cb_loop h100 _)).trans h⟩
  · cases h
noncomputable def fsC3 : FuncId → Option Fsp := fun g =>
  if g = 26 then some cbodS else
  fsC2 g
theorem fsC3_ok : FsOk fsC3 :=
  fs_cons cbodS_ok <|
  fsC2_ok
end Go.Proofs.YtopfebbijnhpfaaGreat

namespace Go.Proofs.YtopfebbijnhpfaaGreat
open Go.RowKit
def nopS : Fsp := fun _ _ _ => none
theorem nopS_ok {f : FuncId} (he : ∀ args w, (callFunc f args).run Tryz.prog w = .ok (.enter f args) w) : FspOk Tryz.prog f nopS where
  enter := he
  nat := fun _ _ _ => rfl
  calls := fun args out hout => by cases hout
noncomputable def fsCz0 : FuncId → Option Fsp := fun g =>
  if g = 41 then some nopS else
  fsC3 g
theorem fsCz0_ok : FsOk fsCz0 :=
  fs_cons (nopS_ok (enters_of Tryz.func41 (by kernel_rfl) rfl)) <|
  fsC3_ok
abbrev bdyS : Sh := (.recd (.cons (.int .i64) (.cons (.int .i64) (.cons (.recd (.cons (.recd (.cons (.int .i64) (.cons (.int .i64) .nil))) (.cons (.recd (.cons (.int .i64) (.cons (.int .i64) .nil))) (.cons (.int .i64) .nil)))) (.cons .bool .nil)))))
abbrev hitS : Sh := .recd (.cons (.int .i64) (.cons (.int .i64) (.cons (.int .i64) .nil)))
def shX : AOut := .ret (.tup [.ro bdyS [], .int .i64 0, .nils, .int .i64 2])
abbrev StS := List Bd1 × Int × Int × List (Int × Int × Int × Unit) × Unit
def stR {α : Type} (x : StS) (b : Bool) : Option (LRes StS α) := bif !b then none else some (.brk 0 (x.1, x.2.1, x.2.2.1, x.2.2.2.1, ()))
def stF {α : Type} (N : Nat) (t : Int) (x : StS) : Option (LRes StS α) :=
  bif decide (x.2.1 < t) then
    afterL (iterL N (csG x.1 fun i => stR x !decide (i ≥ 0)) (0, ())) fun id _ => if id = 0 then stR x (!decide ((-1 : Int) ≥ 0)) else none
  else some (.brk 0 (x.1, x.2.1, x.2.2.1, x.2.2.2.1, ()))
def shT {α : Type} (N : Nat) (l : List BdI) (t : Int) (k : AOut → Option α) : Option α :=
  afterL (iterL N (csF l) ([], 0, ())) fun id y => if id = 0 then
    afterL (iterL N (stF N t) (y.1, 0, 0, [], ())) fun id z => if id = 0 then
      bif shortB z.1 then k (.ret (.tup [.ro bdyS (z.1.map f1), .int .i64 z.2.2.1, .ro hitS z.2.2.2.1, .int .i64 0])) else none
    else none
  else none
def shTx {α : Type} (N : Nat) (cx cy sd w h : Int) (pb po : List Int) (fl ke sw be we : Int) (l : List BdI) (b : List BrI) (wh el t : Int) (k : AOut → Option α) : Option α :=
    bif er2 (iceB cx cy sd w h pb po) == 0 then bif er2 (graB fl ke sw be we) == 0 then bif sceE l == 0 then bif er2 (brsB b) == 0 then
      bif decide (-1 ≤ wh) then bif decide (wh ≤ IntKind.i64.wrap ((l.length : Int) - 1)) then
        bif decide (0 ≤ el) then bif !decide (el ≤ 1000) then k shX
          else bif decide (0 ≤ t) then bif !decide (t ≤ 6000) then k shX else shT N l t k
          else k shX
        else k shX
      else k shX else k shX
    else k shX else k shX else k shX else k shX
set_option maxRecDepth 100000 in
theorem cst_text (N n0 : Nat) (α : Type) (cx cy sd w h : Int) (pb po : List Int) (fl ke sw be we : Int) (l : List BdI) (b : List BrI) (wh el t : Int) (k : AOut → Option α) : evFn real tab ((twX fsCz0 spG).env real tab N (n0 + 14)) N Tryz.f10 α [.agg [.int .i64 cx, .int .i64 cy, .int .i64 sd, .int .i64 w, .int .i64 h, .ro (.int .i64) pb, .ro (.int .i64) po], .agg [.int .i64 fl, .int .i64 ke, .int .i64 sw, .int .i64 be, .int .i64 we], .ro (.recd (.cons (.int .i64) (.cons (.int .i64) (.cons (.recd (.cons (.recd (.cons (.int .i64) (.cons (.int .i64) .nil))) (.cons (.recd (.cons (.int .i64) (.cons (.int .i64) .nil))) (.cons (.int .i64) .nil)))) (.cons .bool .nil))))) l, .ro (.recd (.cons (.int .i64) (.cons (.int .i64) (.cons (.int .i64) .nil)))) b, .int .i64 wh, .int .i64 el, .int .i64 t] k = shTx N cx cy sd w h pb po fl ke sw be we l b wh el t k := by kernel_rfl
theorem sh_still {α : Type} {l : List BdI} (hl : l.length ≤ 16) (hm : l.any mvg = false) (t : Int) (k : AOut → Option α) : shT (l.length + 1) l t k = k (.ret (.tup [.ro bdyS l, .int .i64 0, .ro hitS [], .int .i64 0])) := by
  unfold shT
  refine (cs_loop (by omega) _).trans ?_
  rw [if_pos rfl]
  have e : stF (α := α) (l.length + 1) t (l.map w1, 0, 0, [], ()) = some (.brk 0 (l.map w1, 0, 0, [], ())) := by
    unfold stF
    cases decide ((0 : Int) < t)
    · rfl
    · show afterL (iterL (l.length + 1) (csG (l.map w1) fun i => stR (l.map w1, 0, 0, [], ()) !decide (i ≥ 0)) (0, ())) (fun id _ => if id = 0 then stR (l.map w1, 0, 0, [], ()) (!decide ((-1 : Int) ≥ 0)) else none) = _
      rw [cs_any l (by omega) (stR (l.map w1, 0, 0, [], ())), hm]
      rfl
  refine (count_loop (f := stF (l.length + 1) t) (fun _ => (l.map w1, 0, 0, [], ())) 0 (fun i hi => by omega) (y := (l.map w1, 0, 0, [], ())) (b := 0) e (by omega)).trans ?_
  have e1 : shortB (l.map w1) = true := decide_eq_true (by simp only [List.length_map]; omega)
  have e2 : (l.map w1).map f1 = l := by
    rw [List.map_map, show (f1 ∘ w1 : BdI → BdI) = id from rfl, List.map_id]
  show (bif shortB (l.map w1) then k (.ret (.tup [.ro bdyS ((l.map w1).map f1), .int .i64 0, .ro hitS [], .int .i64 0])) else none) = _
  rw [e1, cond_true]
  exact congrArg (fun L : List BdI => k (.ret (.tup [.ro bdyS L, .int .i64 0, .ro hitS [], .int .i64 0]))) e2
def shoB (cx cy sd w h : Int) (pb po : List Int) (fl ke sw be we : Int) (l : List BdI) (b : List BrI) (wh el t : Int) : Bool := iceB cx cy sd w h pb po && (graB fl ke sw be we && (sceB l && (brsB b && ((decide (-1 ≤ wh) && decide (wh ≤ (l.length : Int) - 1)) && ((decide (0 ≤ el) && decide (el ≤ 1000)) && (decide (0 ≤ t) && decide (t ≤ 6000)))))))
def stlB (l : List BdI) : Bool := l.any mvg
theorem sh_plain {α : Type} (cx cy sd w h : Int) (pb po : List Int) (fl ke sw be we : Int) (l : List BdI) (b : List BrI) (wh el t : Int) (hm : shoB cx cy sd w h pb po fl ke sw be we l b wh el t = true → stlB l = false) (k : AOut → Option α) : shTx (l.length + 1) cx cy sd w h pb po fl ke sw be we l b wh el t k = bif shoB cx cy sd w h pb po fl ke sw be we l b wh el t then (bif stlB l then none else k (.ret (.tup [.ro bdyS l, .int .i64 0, .ro hitS [], .int .i64 0]))) else k shX := by
  revert hm
  unfold shTx shoB er2
  rw [scnE_eq]
  cases iceB cx cy sd w h pb po
  case false => exact fun _ => rfl
  cases graB fl ke sw be we
  case false => exact fun _ => rfl
  cases hs : sceB l
  case false => exact fun _ => rfl
  cases brsB b
  case false => exact fun _ => rfl
  have hl := scn_len hs
  have hw : IntKind.i64.wrap ((l.length : Int) - 1) = (l.length : Int) - 1 := by rw [IntKind.wrap_i64]; omega
  rw [hw]
  cases decide (-1 ≤ wh)
  case false => exact fun _ => rfl
  cases decide (wh ≤ (l.length : Int) - 1)
  case false => exact fun _ => rfl
  cases decide (0 ≤ el)
  case false => exact fun _ => rfl
  cases decide (el ≤ 1000)
  case false => exact fun _ => rfl
  cases decide (0 ≤ t)
  case false => exact fun _ => rfl
  cases decide (t ≤ 6000)
  case false => exact fun _ => rfl
  intro hm
  have hm := hm rfl
  refine Eq.trans ?_ (show _ = (bif stlB l then none else k (.ret (.tup [.ro bdyS l, .int .i64 0, .ro hitS [], .int .i64 0]))) from by rw [hm])
  exact sh_still hl hm t k
noncomputable def shS : Fsp := fun _ args k => match args with
  | [.agg [.int .i64 cx, .int .i64 cy, .int .i64 sd, .int .i64 w, .int .i64 h, .ro (.int .i64) pb, .ro (.int .i64) po], .agg [.int .i64 fl, .int .i64 ke, .int .i64 sw, .int .i64 be, .int .i64 we], .ro (.recd (.cons (.int .i64) (.cons (.int .i64) (.cons (.recd (.cons (.recd (.cons (.int .i64) (.cons (.int .i64) .nil))) (.cons (.recd (.cons (.int .i64) (.cons (.int .i64) .nil))) (.cons (.int .i64) .nil)))) (.cons .bool .nil))))) l, .ro (.recd (.cons (.int .i64) (.cons (.int .i64) (.cons (.int .i64) .nil)))) b, .int .i64 wh, .int .i64 el, .int .i64 t] => bif shoB cx cy sd w h pb po fl ke sw be we l b wh el t then (bif stlB l then none else k (.ret (.tup [.ro bdyS l, .int .i64 0, .ro hitS [], .int .i64 0]))) else k shX
  | _ => none
theorem shS_ok : FspOk Tryz.prog 10 shS := tower_X fsCz0_ok spG_ok ⟨Tryz.func10, fun _ _ => by kernel_rfl⟩ (by intro α args k; unfold shS; split <;> simp only [cond_bind, Option.bind_some, Option.bind_none]) fun args out hSm hEq => by
  unfold shS at hEq
  split at hEq
  · rename_i cx cy sd w h pb po fl ke sw be we l b wh el t
    have hm : shoB cx cy sd w h pb po fl ke sw be we l b wh el t = true → stlB l = false := fun h => by
      rw [h, cond_true] at hEq
      cases hh : stlB l
      · rfl
      · rw [hh] at hEq; cases hEq
    refine ⟨List.length (α := BdI) l + 1, 14, (cst_text _ 0 AOut cx cy sd w h pb po fl ke sw be we l b wh el t some).trans (Eq.trans ?_ hEq)⟩
    exact sh_plain cx cy sd w h pb po fl ke sw be we l b wh el t hm some
  · cases hEq
end Go.Proofs.YtopfebbijnhpfaaGreat

namespace Go.Proofs.YtopfebbijnhpfaaGreat
open Go.RowKit
noncomputable def fnR0 : FuncId → Option Fsp := fun g =>
  fnL g
theorem fnR0_ok : FsOk fnR0 :=
  fnL_ok
noncomputable def fnR1 : FuncId → Option Fsp := fun g =>
  fnR0 g
theorem fnR1_ok : FsOk fnR1 :=
  fnR0_ok
end Go.Proofs.YtopfebbijnhpfaaGreat

namespace Go.Proofs.YtopfebbijnhpfaaGreat
open Go.RowKit
section
variable {σ α : Type}
end
end Go.Proofs.YtopfebbijnhpfaaGreat

namespace Go.Proofs.YtopfebbijnhpfaaGreat
open Go.RowKit
end Go.Proofs.YtopfebbijnhpfaaGreat

namespace Go.Proofs.YtopfebbijnhpfaaGreat
open Go.RowKit
section
variable {α : Type}
end
end Go.Proofs.YtopfebbijnhpfaaGreat

namespace Go.Proofs.YtopfebbijnhpfaaGreat
open Go.RowKit
/-! Lists of numbers for which something holds. -/
end Go.Proofs.YtopfebbijnhpfaaGreat

namespace Go.Proofs.YtopfebbijnhpfaaGreat
open Go.RowKit
section
variable {α : Type}
end
end Go.Proofs.YtopfebbijnhpfaaGreat

namespace Go.Proofs.YtopfebbijnhpfaaGreat
open Go.RowKit
noncomputable def fnR2 : FuncId → Option Fsp := fun g =>
  fnR1 g
theorem fnR2_ok : FsOk fnR2 :=
  fnR1_ok
noncomputable def fnR3 : FuncId → Option Fsp := fun g =>
  fnR2 g
theorem fnR3_ok : FsOk fnR3 :=
  fnR2_ok
end Go.Proofs.YtopfebbijnhpfaaGreat

namespace Go.Proofs.YtopfebbijnhpfaaGreat
open Go.RowKit
end Go.Proofs.YtopfebbijnhpfaaGreat

namespace Go.Proofs.YtopfebbijnhpfaaGreat
open Go.RowKit
noncomputable def fnRa : FuncId → Option Fsp := fun g =>
  fnR3 g
theorem fnRa_ok : FsOk fnRa :=
  fnR3_ok
/-! Plain numbers. -/
/-! A tick of the reference. -/
noncomputable def fnRb : FuncId → Option Fsp := fun g =>
  fnRa g
theorem fnRb_ok : FsOk fnRb :=
  fnRa_ok
end Go.Proofs.YtopfebbijnhpfaaGreat

namespace Go.Proofs.YtopfebbijnhpfaaGreat
open Go.RowKit
noncomputable def fnRc : FuncId → Option Fsp := fun g =>
  fnRb g
theorem fnRc_ok : FsOk fnRc :=
  fnRb_ok
noncomputable def fnRd : FuncId → Option Fsp := fun g =>
  fnRc g
theorem fnRd_ok : FsOk fnRd :=
  fnRc_ok
end Go.Proofs.YtopfebbijnhpfaaGreat

namespace Go.Proofs.YtopfebbijnhpfaaGreat
open Go.RowKit
end Go.Proofs.YtopfebbijnhpfaaGreat

namespace Go.Proofs.YtopfebbijnhpfaaGreat
section
variable {α : Type}
end
end Go.Proofs.YtopfebbijnhpfaaGreat

namespace Go.Proofs.YtopfebbijnhpfaaGreat
open Go.RowKit
def sameX {X : Type} (eq : X → X → Bool) (d : X) (l l' : List X) : Bool := bif (l.length : Int) != (l'.length : Int) then false else !((List.range l.length).any fun i => !(eq (l.getD i d) (l'.getD i d)))
theorem sameX_refl {X : Type} {eq : X → X → Bool} {d : X} (h : ∀ x, eq x x = true) (l : List X) : sameX eq d l l = true := by
  unfold sameX
  have h1 : ((l.length : Int) != (l.length : Int)) = false := by simp
  rw [h1, cond_false, Bool.not_eq_true', List.any_eq_false]
  intro i _
  simp [h]
def saF {α X : Type} (eq : X → X → Bool) (d : X) (l l' : List X) (R : Option α) (x : Int × Unit) : Option (LRes (Int × Unit) α) :=
  bif decide (x.1 < (l.length : Int)) then
    if 0 ≤ x.1 ∧ x.1 < (l.length : Int) then
      if 0 ≤ x.1 ∧ x.1 < (l'.length : Int) then
        bif !(eq (l.getD x.1.toNat d) (l'.getD x.1.toNat d)) then finL R else some (.cont (IntKind.i64.wrap (x.1 + 1), ()))
      else none
    else none
  else some (.brk 0 (x.1, ()))
theorem sa_loop {α X : Type} (eq : X → X → Bool) (d : X) (l l' : List X) (hl : l.length ≤ maxLen) (R : Bool → Option α) :
    (bif (l.length : Int) != (l'.length : Int) then R false else afterL (iterL (l.length + 1) (saF eq d l l' (R false)) (0, ())) fun id _ => if id = 0 then R true else none) = R (sameX eq d l l') := by
  unfold sameX
  cases h1 : ((l.length : Int) != (l'.length : Int))
  · have hl' : l.length = l'.length := by have := bne_eq_false_iff_eq.1 h1; omega
    simp only [cond_false]
    refine (any_loop (f := saF eq d l l' (R false)) (fun i : Nat => ((i : Int), ())) l.length (fun i => !(eq (l.getD i d) (l'.getD i d))) (R false) (fun i hi => ?_) (y := ((l.length : Int), ())) (b := 0) ?_).trans ?_
    · unfold saF
      simp only [lt_len hi, cond_true, in_len hi, in_len (show i < l'.length by omega), if_pos, and_self, decide_true, Int.toNat_natCast, wrap_next hi hl]
    · unfold saF
      simp only [not_lt_len, cond_false]
    · cases (List.range l.length).any fun i => !(eq (l.getD i d) (l'.getD i d)) <;> rfl
  · rfl
end Go.Proofs.YtopfebbijnhpfaaGreat

namespace Go.Proofs.YtopfebbijnhpfaaGreat
open Go.RowKit
noncomputable def fnC0 : FuncId → Option Fsp := fun g =>
  fnRd g
theorem fnC0_ok : FsOk fnC0 :=
  fnRd_ok
/-! Lists that are the same. -/
def bdEq (a b : BdI) : Bool := a.1 == b.1 && (a.2.1 == b.2.1 && (((a.x == b.x && (a.y == b.y && true)) && ((a.u == b.u && (a.v == b.v && true)) && (a.s == b.s && true))) && (a.o == b.o && true)))
def stEq (a b : StI) : Bool := a.1 == b.1 && (a.2.1 == b.2.1 && ((a.2.2.1.1 == b.2.2.1.1 && (a.2.2.1.2.1 == b.2.2.1.2.1 && true)) && true))
theorem bdEq_refl (a : BdI) : bdEq a a = true := by simp [bdEq]
theorem stEq_refl (a : StI) : stEq a a = true := by simp [stEq]
set_option maxRecDepth 100000 in
theorem rplacedx_text (N n0 : Nat) (α : Type) (l l' : List StI) (k : AOut → Option α) : evFn real tab ((twY fnC0 spL).env real tab N (n0 + 8)) N Tryz.f12 α [.ro (.recd (.cons (.int .i64) (.cons (.int .i64) (.cons (.recd (.cons (.int .i64) (.cons (.int .i64) .nil))) .nil)))) l, .ro (.recd (.cons (.int .i64) (.cons (.int .i64) (.cons (.recd (.cons (.int .i64) (.cons (.int .i64) .nil))) .nil)))) l'] k =
 bif (l.length : Int) != (l'.length : Int) then k (b1 false) else afterL (iterL N (saF stEq stD l l' (k (b1 false))) (0, ())) fun id _ => if id = 0 then k (b1 true) else none := by
 kernel_rfl
set_option maxRecDepth 100000 in
theorem rsame5x_text (N n0 : Nat) (α : Type) (l l' : List BdI) (k : AOut → Option α) : evFn real tab ((twY fnC0 spL).env real tab N (n0 + 8)) N Tryz.f11 α [.ro (.recd (.cons (.int .i64) (.cons (.int .i64) (.cons (.recd (.cons (.recd (.cons (.int .i64) (.cons (.int .i64) .nil))) (.cons (.recd (.cons (.int .i64) (.cons (.int .i64) .nil))) (.cons (.int .i64) .nil)))) (.cons .bool .nil))))) l, .ro (.recd (.cons (.int .i64) (.cons (.int .i64) (.cons (.recd (.cons (.recd (.cons (.int .i64) (.cons (.int .i64) .nil))) (.cons (.recd (.cons (.int .i64) (.cons (.int .i64) .nil))) (.cons (.int .i64) .nil)))) (.cons .bool .nil))))) l'] k =
 bif (l.length : Int) != (l'.length : Int) then k (b1 false) else afterL (iterL N (saF bdEq bdD l l' (k (b1 false))) (0, ())) fun id _ => if id = 0 then k (b1 true) else none := by
 kernel_rfl
theorem rplacedx_fin (l l' : List StI) (hs : ∀ qSm ∈ ([.ro (.recd (.cons (.int .i64) (.cons (.int .i64) (.cons (.recd (.cons (.int .i64) (.cons (.int .i64) .nil))) .nil)))) l, .ro (.recd (.cons (.int .i64) (.cons (.int .i64) (.cons (.recd (.cons (.int .i64) (.cons (.int .i64) .nil))) .nil)))) l'] : List AVal), Sm qSm) : ∃ N n, ∀ α (k : AOut → Option α), evFn real tab ((twY fnC0 spL).env real tab N n) N Tryz.f12 α [.ro (.recd (.cons (.int .i64) (.cons (.int .i64) (.cons (.recd (.cons (.int .i64) (.cons (.int .i64) .nil))) .nil)))) l, .ro (.recd (.cons (.int .i64) (.cons (.int .i64) (.cons (.recd (.cons (.int .i64) (.cons (.int .i64) .nil))) .nil)))) l'] k = k (b1 (sameX stEq stD l l')) := by
  exact ⟨l.length + 1, 8, fun α k => (rplacedx_text _ 0 α l l' k).trans (sa_loop stEq stD l l' (hs (.ro (.recd (.cons (.int .i64) (.cons (.int .i64) (.cons (.recd (.cons (.int .i64) (.cons (.int .i64) .nil))) .nil)))) l) (List.mem_cons_self ..)).len fun b => k (b1 b))⟩
noncomputable def rplacedxS : Fsp := fun _ args k => match args with
  | [.ro (.recd (.cons (.int .i64) (.cons (.int .i64) (.cons (.recd (.cons (.int .i64) (.cons (.int .i64) .nil))) .nil)))) l, .ro (.recd (.cons (.int .i64) (.cons (.int .i64) (.cons (.recd (.cons (.int .i64) (.cons (.int .i64) .nil))) .nil)))) l'] => k (b1 (sameX stEq stD l l'))
  | _ => none
theorem rplacedxS_ok : FspOk Tryz.prog 12 rplacedxS := tower_Y fnC0_ok spL_ok ⟨Tryz.func12, fun _ _ => by kernel_rfl⟩ (by intro α args k; unfold rplacedxS; split <;> rfl) fun args out hSm hEq => by
  unfold rplacedxS at hEq
  split at hEq
  · rename_i l l'
    obtain ⟨N, n, e⟩ := rplacedx_fin l l' hSm
    exact ⟨N, n, (e AOut some).trans hEq⟩
  · cases hEq
theorem rsame5x_fin (l l' : List BdI) (hs : ∀ qSm ∈ ([.ro (.recd (.cons (.int .i64) (.cons (.int .i64) (.cons (.recd (.cons (.recd (.cons (.int .i64) (.cons (.int .i64) .nil))) (.cons (.recd (.cons (.int .i64) (.cons (.int .i64) .nil))) (.cons (.int .i64) .nil)))) (.cons .bool .nil))))) l, .ro (.recd (.cons (.int .i64) (.cons (.int .i64) (.cons (.recd (.cons (.recd (.cons (.int .i64) (.cons (.int .i64) .nil))) (.cons (.recd (.cons (.int .i64) (.cons (.int .i64) .nil))) (.cons (.int .i64) .nil)))) (.cons .bool .nil))))) l'] : List AVal), Sm qSm) : ∃ N n, ∀ α (k : AOut → Option α), evFn real tab ((twY fnC0 spL).env real tab N n) N Tryz.f11 α [.ro (.recd (.cons (.int .i64) (.cons (.int .i64) (.cons (.recd (.cons (.recd (.cons (.int .i64) (.cons (.int .i64) .nil))) (.cons (.recd (.cons (.int .i64) (.cons (.int .i64) .nil))) (.cons (.int .i64) .nil)))) (.cons .bool .nil))))) l, .ro (.recd (.cons (.int .i64) (.cons (.int .i64) (.cons (.recd (.cons (.recd (.cons (.int .i64) (.cons (.int .i64) .nil))) (.cons (.recd (.cons (.int .i64) (.cons (.int .i64) .nil))) (.cons (.int .i64) .nil)))) (.cons .bool .nil))))) l'] k = k (b1 (sameX bdEq bdD l l')) := by
  exact ⟨l.length + 1, 8, fun α k => (rsame5x_text _ 0 α l l' k).trans (sa_loop bdEq bdD l l' (hs (.ro (.recd (.cons (.int .i64) (.cons (.int .i64) (.cons (.recd (.cons (.recd (.cons (.int .i64) (.cons (.int .i64) .nil))) (.cons (.recd (.cons (.int .i64) (.cons (.int .i64) .nil))) (.cons (.int .i64) .nil)))) (.cons .bool .nil))))) l) (List.mem_cons_self ..)).len fun b => k (b1 b))⟩
noncomputable def rsame5xS : Fsp := fun _ args k => match args with
  | [.ro (.recd (.cons (.int .i64) (.cons (.int .i64) (.cons (.recd (.cons (.recd (.cons (.int .i64) (.cons (.int .i64) .nil))) (.cons (.recd (.cons (.int .i64) (.cons (.int .i64) .nil))) (.cons (.int .i64) .nil)))) (.cons .bool .nil))))) l, .ro (.recd (.cons (.int .i64) (.cons (.int .i64) (.cons (.recd (.cons (.recd (.cons (.int .i64) (.cons (.int .i64) .nil))) (.cons (.recd (.cons (.int .i64) (.cons (.int .i64) .nil))) (.cons (.int .i64) .nil)))) (.cons .bool .nil))))) l'] => k (b1 (sameX bdEq bdD l l'))
  | _ => none
theorem rsame5xS_ok : FspOk Tryz.prog 11 rsame5xS := tower_Y fnC0_ok spL_ok ⟨Tryz.func11, fun _ _ => by kernel_rfl⟩ (by intro α args k; unfold rsame5xS; split <;> rfl) fun args out hSm hEq => by
  unfold rsame5xS at hEq
  split at hEq
  · rename_i l l'
    obtain ⟨N, n, e⟩ := rsame5x_fin l l' hSm
    exact ⟨N, n, (e AOut some).trans hEq⟩
  · cases hEq
/-! still -/
/-! Scene -/
noncomputable def fnC1 : FuncId → Option Fsp := fun g =>
  if g = 12 then some rplacedxS else
  if g = 11 then some rsame5xS else
  fnC0 g
theorem fnC1_ok : FsOk fnC1 :=
  fs_cons rplacedxS_ok <|
  fs_cons rsame5xS_ok <|
  fnC0_ok
end Go.Proofs.YtopfebbijnhpfaaGreat

namespace Go.Proofs.YtopfebbijnhpfaaGreat
open Go.RowKit
noncomputable def fnC2 : FuncId → Option Fsp := fun g =>
  fnC1 g
theorem fnC2_ok : FsOk fnC2 :=
  fnC1_ok
end Go.Proofs.YtopfebbijnhpfaaGreat

namespace Go.Proofs.YtopfebbijnhpfaaGreat
open Go.RowKit
def uniVC (x y c : Int) : Int := bif uniB x y then (bif sq2 x y == 0 then 0 else sg (ngB c) (shrC (ab c) (sq2 x y))) else 0
def uniC : Fsp := fun _ args k => match args with
  | [.agg [.int .i64 x, .int .i64 y]] => k (s2 (uniVC x y x) (uniVC x y y) (uniE x y))
  | _ => none
theorem uniC_eq : uniC = uniS := by
  have h : ∀ x y c, uniV x y c = uniVC x y c := fun x y c => by unfold uniV uniVC; rw [shr_C]
  unfold uniC uniS
  simp only [h]
  rfl
theorem uniC_ok : FspOk Tryz.prog 46 uniC := by rw [uniC_eq]; exact uniS_ok
def bodyS : Fsp := fun _ args k => match args with
  | [.int .i64 t, .int .i64 y, .int .i64 v] => k (.ret (bdN t 0 0 y 0 v 0 false))
  | _ => none
theorem body_text (N n : Nat) (α : Type) (t y v : Int) (k : AOut → Option α) : evFn real tab ((twT fsH spC).env real tab N (n + 4)) N Tryz.f13 α [iN t, iN y, iN v] k = k (.ret (bdN t 0 0 y 0 v 0 false)) := by kernel_rfl
theorem bodyS_ok : FspOk Tryz.prog 13 bodyS := tower_S fsH_ok spC_ok ⟨Tryz.func13, fun _ _ => by kernel_rfl⟩ (by intro α args k; unfold bodyS; split <;> rfl) fun args out hs h => by
  unfold bodyS at h
  split at h
  · exact ⟨8, 4, (body_text 8 0 AOut _ _ _ some).trans h⟩
  · cases h
noncomputable def fsI : FuncId → Option Fsp := fun g => if g = 13 then some bodyS else fsH g
theorem fsI_ok : FsOk fsI := fs_cons bodyS_ok fsH_ok
noncomputable def fsK : FuncId → Option Fsp := fun g => if g = 46 then some uniC else fsI g
theorem fsK_ok : FsOk fsK := fs_cons uniC_ok fsI_ok
def trueS : Fsp := fun _ args k => match args with
  | [] => k (b1 true)
  | _ => none
set_option maxRecDepth 100000 in
theorem aliveT (α : Type) (k : AOut → Option α) : evFn real tab ((twT fsK spC).env real tab 20 8) 20 Tryz.f4 α [] k = k (b1 true) := by kernel_rfl
theorem aliveS_ok : FspOk Tryz.prog 4 trueS := tower_S fsK_ok spC_ok ⟨Tryz.func4, fun _ _ => by kernel_rfl⟩ (by intro α args k; unfold trueS; split <;> rfl) fun args out hs h => by
  unfold trueS at h
  split at h
  · exact ⟨20, 8, (aliveT AOut some).trans h⟩
  · cases h
end Go.Proofs.YtopfebbijnhpfaaGreat
