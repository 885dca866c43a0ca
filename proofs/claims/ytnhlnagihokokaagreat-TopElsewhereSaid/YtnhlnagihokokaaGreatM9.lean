/- Parts of the proof, in build order. -/
import Derived.Test.YtnhlnagihokokaaGreatM8
import Derived.Test.YtnhlnagihokokaaGreatM6
namespace Go.Proofs.YtnhlnagihokokaaGreat
open Go.RowKit
set_option maxRecDepth 100000 in
theorem itchd_text (N n0 : Nat) (α : Type) (cx cy sd w h : Int) (pb po : List Int) (x y u v : Int) (k : AOut → Option α) : evFn real tab ((twY fsI8 spL).env real tab N (n0 + 8)) N Tryz.f53 α [.agg [.int .i64 cx, .int .i64 cy, .int .i64 sd, .int .i64 w, .int .i64 h, .ro (.int .i64) pb, .ro (.int .i64) po], .agg [.int .i64 x, .int .i64 y], .agg [.int .i64 u, .int .i64 v]] k =
 k (AOut.ret (AVal.fn 105 [AVal.rp [AVal.int IntKind.i64 cx, AVal.int IntKind.i64 cy, AVal.int IntKind.i64 sd, AVal.int IntKind.i64 w, AVal.int IntKind.i64 h, AVal.ro (Sh.int
 IntKind.i64) pb, AVal.ro (Sh.int IntKind.i64) po], AVal.rp [AVal.int IntKind.i64 x, AVal.int IntKind.i64 y], AVal.rp [AVal.int IntKind.i64 u, AVal.int IntKind.i64 v]])) := by
 kernel_rfl
theorem clone_text (N n0 : Nat) (α : Type) (xs : List Int) (k : AOut → Option α) : evFn real tab ((twY fsI8 spL).env real tab N (n0 + 8)) N Tryz.f43 α [.ro (.int .i64) xs] k = if 0 < xs.length then if (List.length (α := Int) [] + xs.length) * 8 ≤ room then k (.ret (.ro (.int .i64) ((List.nil (α := Int)) ++ xs))) else none else none := by kernel_rfl
theorem itchd_fin (cx cy sd w h : Int) (pb po : List Int) (x y u v : Int) (hs : ∀ qSm ∈ ([.agg [.int .i64 cx, .int .i64 cy, .int .i64 sd, .int .i64 w, .int .i64 h, .ro (.int .i64) pb, .ro (.int .i64) po], .agg [.int .i64 x, .int .i64 y], .agg [.int .i64 u, .int .i64 v]] : List AVal), Sm qSm) : ∃ N n, ∀ α (k : AOut → Option α), evFn real tab ((twY fsI8 spL).env real tab N n) N Tryz.f53 α [.agg [.int .i64 cx, .int .i64 cy, .int .i64 sd, .int .i64 w, .int .i64 h, .ro (.int .i64) pb, .ro (.int .i64) po], .agg [.int .i64 x, .int .i64 y], .agg [.int .i64 u, .int .i64 v]] k = k (.ret (.fn 105 [.rp [.int .i64 cx, .int .i64 cy, .int .i64 sd, .int .i64 w, .int .i64 h, .ro (.int .i64) pb, .ro (.int .i64) po], .rp [.int .i64 x, .int .i64 y], .rp [.int .i64 u, .int .i64 v]])) := by
  exact ⟨8, 8, fun α k => itchd_text 8 0 α cx cy sd w h pb po x y u v k⟩
noncomputable def itchdS : Fsp := fun _ args k => match args with
  | [.agg [.int .i64 cx, .int .i64 cy, .int .i64 sd, .int .i64 w, .int .i64 h, .ro (.int .i64) pb, .ro (.int .i64) po], .agg [.int .i64 x, .int .i64 y], .agg [.int .i64 u, .int .i64 v]] => k (.ret (.fn 105 [.rp [.int .i64 cx, .int .i64 cy, .int .i64 sd, .int .i64 w, .int .i64 h, .ro (.int .i64) pb, .ro (.int .i64) po], .rp [.int .i64 x, .int .i64 y], .rp [.int .i64 u, .int .i64 v]]))
  | _ => none
theorem itchdS_ok : FspOk Tryz.prog 53 itchdS := tower_Y fsI8_ok spL_ok ⟨Tryz.func53, fun _ _ => by kernel_rfl⟩ (by intro α args k; unfold itchdS; split <;> rfl) fun args out hSm hEq => by
  unfold itchdS at hEq
  split at hEq
  · rename_i cx cy sd w h pb po x y u v
    obtain ⟨N, n, e⟩ := itchd_fin cx cy sd w h pb po x y u v hSm
    exact ⟨N, n, (e AOut some).trans hEq⟩
  · cases hEq
theorem clone_fin (xs : List Int) (hs : ∀ qSm ∈ ([.ro (.int .i64) xs] : List AVal), Sm qSm) (hCo : (decide (0 < List.length (α := Int) xs) && decide (List.length (α := Int) xs ≤ 65536)) = true) : ∃ N n, ∀ α (k : AOut → Option α), evFn real tab ((twY fsI8 spL).env real tab N n) N Tryz.f43 α [.ro (.int .i64) xs] k = k (.ret (.ro (.int .i64) xs)) := by
  simp only [Bool.and_eq_true, decide_eq_true_eq] at hCo
  refine ⟨8, 8, fun α k => (clone_text 8 0 α xs k).trans ?_⟩
  rw [if_pos hCo.1, if_pos (by simp [room]; omega)]
  rfl
noncomputable def cloneS : Fsp := fun _ args k => match args with
  | [.ro (.int .i64) xs] => bif decide (0 < List.length (α := Int) xs) && decide (List.length (α := Int) xs ≤ 65536) then k (.ret (.ro (.int .i64) xs)) else none
  | _ => none
theorem cloneS_ok : FspOk Tryz.prog 43 cloneS := tower_Y fsI8_ok spL_ok ⟨Tryz.func43, fun _ _ => by kernel_rfl⟩ (by intro α args k; unfold cloneS; split <;> simp only [cond_bind, Option.bind_some, Option.bind_none]) fun args out hSm hEq => by
  unfold cloneS at hEq
  split at hEq
  · rename_i xs
    cases hc : decide (0 < List.length (α := Int) xs) && decide (List.length (α := Int) xs ≤ 65536)
    · rw [hc] at hEq; cases hEq
    · rw [hc] at hEq
      obtain ⟨N, n, e⟩ := clone_fin xs hSm hc
      exact ⟨N, n, (e AOut some).trans hEq⟩
  · cases hEq
/-! What is done with each cell. -/
def wornV (n we : Int) : Int := if 0 < IntKind.i64.wrap (n - we) then IntKind.i64.wrap (n - we) else 0
def moreV (n s : Int) : Int := if IntKind.i64.wrap (n + s) < 1000 then IntKind.i64.wrap (n + s) else 1000
theorem ipass1_text (N n0 : Nat) (α : Type) (z fl ke sw be we : Int) (k : AOut → Option α) : evFn real tab ((twY fsI8 spL).env real tab N (n0 + 8)) N Tryz.f95 α [.int .i64 z, .rp [.int .i64 fl, .int .i64 ke, .int .i64 sw, .int .i64 be, .int .i64 we]] k = k (i1 (wornV z we)) := by kernel_rfl
theorem isweep1_text (N n0 : Nat) (α : Type) (z b : Int) (k : AOut → Option α) : evFn real tab ((twY fsI8 spL).env real tab N (n0 + 8)) N Tryz.f98 α [.int .i64 z, .rp [.int .i64 b]] k = k (i1 (moreV z b)) := by kernel_rfl
theorem ipass1_fin (z fl ke sw be we : Int) (hs : ∀ qSm ∈ ([.int .i64 z, .rp [.int .i64 fl, .int .i64 ke, .int .i64 sw, .int .i64 be, .int .i64 we]] : List AVal), Sm qSm) : ∃ N n, ∀ α (k : AOut → Option α), evFn real tab ((twY fsI8 spL).env real tab N n) N Tryz.f95 α [.int .i64 z, .rp [.int .i64 fl, .int .i64 ke, .int .i64 sw, .int .i64 be, .int .i64 we]] k = k (i1 (wornV z we)) := by
  exact ⟨8, 8, fun α k => ipass1_text 8 0 α z fl ke sw be we k⟩
noncomputable def ipass1S : Fsp := fun _ args k => match args with
  | [.int .i64 z, .rp [.int .i64 fl, .int .i64 ke, .int .i64 sw, .int .i64 be, .int .i64 we]] => k (i1 (wornV z we))
  | _ => none
theorem ipass1S_ok : FspOk Tryz.prog 95 ipass1S := tower_Y fsI8_ok spL_ok ⟨Tryz.func95, fun _ _ => by kernel_rfl⟩ (by intro α args k; unfold ipass1S; split <;> rfl) fun args out hSm hEq => by
  unfold ipass1S at hEq
  split at hEq
  · rename_i z fl ke sw be we
    obtain ⟨N, n, e⟩ := ipass1_fin z fl ke sw be we hSm
    exact ⟨N, n, (e AOut some).trans hEq⟩
  · cases hEq
theorem isweep1_fin (z b : Int) (hs : ∀ qSm ∈ ([.int .i64 z, .rp [.int .i64 b]] : List AVal), Sm qSm) : ∃ N n, ∀ α (k : AOut → Option α), evFn real tab ((twY fsI8 spL).env real tab N n) N Tryz.f98 α [.int .i64 z, .rp [.int .i64 b]] k = k (i1 (moreV z b)) := by
  exact ⟨8, 8, fun α k => isweep1_text 8 0 α z b k⟩
noncomputable def isweep1S : Fsp := fun _ args k => match args with
  | [.int .i64 z, .rp [.int .i64 b]] => k (i1 (moreV z b))
  | _ => none
theorem isweep1S_ok : FspOk Tryz.prog 98 isweep1S := tower_Y fsI8_ok spL_ok ⟨Tryz.func98, fun _ _ => by kernel_rfl⟩ (by intro α args k; unfold isweep1S; split <;> rfl) fun args out hSm hEq => by
  unfold isweep1S at hEq
  split at hEq
  · rename_i z b
    obtain ⟨N, n, e⟩ := isweep1_fin z b hSm
    exact ⟨N, n, (e AOut some).trans hEq⟩
  · cases hEq
noncomputable def fsI9 : FuncId → Option Fsp := fun g =>
  if g = 53 then some itchdS else
  if g = 43 then some cloneS else
  if g = 95 then some ipass1S else
  if g = 98 then some isweep1S else
  fsIt g
theorem fsI9_ok : FsOk fsI9 :=
  fs_cons itchdS_ok <|
  fs_cons cloneS_ok <|
  fs_cons ipass1S_ok <|
  fs_cons isweep1S_ok <|
  fsIt_ok
end Go.Proofs.YtnhlnagihokokaaGreat

namespace Go.Proofs.YtnhlnagihokokaaGreat
open Go.RowKit
/-! Lists, some of whose numbers something is done with. -/
def chgL (hit : Nat → Bool) (f : Int → Int) (l : List Int) : List Int := (List.range l.length).map fun i => bif hit i then f (l.getD i 0) else l.getD i 0
def updL (f : Int → Int) (i : Nat) (t : List Int) : List Int := t.set i (f (t.getD i 0))
theorem fold_len (hit : Nat → Bool) (f : Int → Int) (l : List Int) : ∀ n, (foldC hit (updL f) l n).length = l.length
  | 0 => rfl
  | n + 1 => by
    simp only [foldC]
    cases hit n
    · exact fold_len hit f l n
    · simp only [cond_true, updL, List.length_set]; exact fold_len hit f l n
theorem fold_get (hit : Nat → Bool) (f : Int → Int) (l : List Int) : ∀ n, n ≤ l.length → ∀ j, (foldC hit (updL f) l n).getD j 0 = bif decide (j < n) && hit j then f (l.getD j 0) else l.getD j 0
  | 0, _, j => by simp [foldC]
  | n + 1, hn, j => by
    have ih := fold_get hit f l n (by omega)
    have hlen := fold_len hit f l n
    simp only [foldC]
    cases hh : hit n
    · rw [cond_false, ih j]
      by_cases hj : j = n
      · subst hj; rw [hh]; simp
      · have : decide (j < n + 1) = decide (j < n) := by rw [decide_eq_decide]; omega
        rw [this]
    · rw [cond_true]
      generalize foldC hit (updL f) l n = F at *
      unfold updL
      by_cases hj : j = n
      · subst hj
        rw [List.getD_eq_getElem?_getD, List.getElem?_set_self (by omega), Option.getD_some, ih j, hh]
        simp
      · rw [List.getD_eq_getElem?_getD, List.getElem?_set_ne (by omega), ← List.getD_eq_getElem?_getD, ih j]
        have : decide (j < n + 1) = decide (j < n) := by rw [decide_eq_decide]; omega
        rw [this]
theorem fold_chg (hit : Nat → Bool) (f : Int → Int) (l : List Int) : foldC hit (updL f) l l.length = chgL hit f l := by
  refine List.ext_getElem (by rw [fold_len]; simp [chgL]) fun i h1 h2 => ?_
  have a := fold_get hit f l l.length (Nat.le_refl _) i
  rw [List.getD_eq_getElem?_getD, List.getElem?_eq_getElem h1, Option.getD_some] at a
  rw [fold_len] at h1
  rw [a, decide_eq_true h1, Bool.true_and]
  simp [chgL]
theorem chg_len (hit : Nat → Bool) (f : Int → Int) (l : List Int) : (chgL hit f l).length = l.length := by simp [chgL]
theorem chg_get (hit : Nat → Bool) (f : Int → Int) (l : List Int) {j : Nat} (hj : j < l.length) : (chgL hit f l).getD j 0 = bif hit j then f (l.getD j 0) else l.getD j 0 := by
  rw [← fold_chg, fold_get hit f l l.length (Nat.le_refl _), decide_eq_true hj, Bool.true_and]
/-! Boxes. -/
section
variable {σ α : Type}
end
end Go.Proofs.YtnhlnagihokokaaGreat

namespace Go.Proofs.YtnhlnagihokokaaGreat
open Go.RowKit
abbrev icO (cx cy sd w h : Int) (pb po : List Int) : AOut := .ret (.tup [.agg [.int .i64 cx, .int .i64 cy, .int .i64 sd, .int .i64 w, .int .i64 h, .ro (.int .i64) pb, .ro (.int .i64) po], .int .i64 0])
abbrev icN : AOut := .ret (.tup [.agg [.int .i64 0, .int .i64 0, .int .i64 0, .int .i64 0, .int .i64 0, .nils, .nils], .int .i64 2])
def setC (f : Int → Int) : (β : Type) → Int → List Int → (List Int → Option β) → Option β := fun _ c t k =>
  if 0 ≤ c ∧ c < (t.length : Int) then if 0 ≤ c ∧ c < (t.length : Int) then k (t.set c.toNat (f (t.getD c.toNat 0))) else none else none
def touM {α : Type} (N : Nat) (bf bt cf ct w : Int) (dom hit : Int → Bool) (f : Int → Int) (t0 : List Int) (K : List Int → Option α) : Option α :=
  afterL
    (iterL N
      (fun z : List Int × Int × Unit =>
        bif decide (z.2.1 ≤ bt) then
          afterL
            (iterL N
              (fun v : List Int × Int × Unit =>
                bif decide (v.2.1 ≤ ct) then
                  bif dom (IntKind.i64.wrap (IntKind.i64.wrap (z.2.1 * w) + v.2.1)) then
                    bif hit (IntKind.i64.wrap (IntKind.i64.wrap (z.2.1 * w) + v.2.1)) then
                      setC f _ (IntKind.i64.wrap (IntKind.i64.wrap (z.2.1 * w) + v.2.1)) v.1 fun t => some (LRes.cont (t, IntKind.i64.wrap (v.2.1 + 1), ()))
                    else some (LRes.cont (v.1, IntKind.i64.wrap (v.2.1 + 1), ()))
                  else none
                else some (LRes.brk 2 (v.1, v.2.1, ())))
              (z.1, cf, ()))
            fun id y => if id = 2 then some (LRes.cont (y.1, IntKind.i64.wrap (z.2.1 + 1), ())) else none
        else some (LRes.brk 0 (z.1, z.2.1, ())))
      (t0, bf, ()))
    fun id y => if id = 0 then K y.1 else none
set_option maxRecDepth 100000 in
theorem ipass_text (N n0 : Nat) (α : Type) (cx cy sd w h : Int) (pb po : List Int) (fl ke sw be we : Int) (x y u v : Int) (k : AOut → Option α) : evFn real tab ((twY fsI9 spL).env real tab N (n0 + 8)) N Tryz.f47 α [.agg [.int .i64 cx, .int .i64 cy, .int .i64 sd, .int .i64 w, .int .i64 h, .ro (.int .i64) pb, .ro (.int .i64) po], .agg [.int .i64 fl, .int .i64 ke, .int .i64 sw, .int .i64 be, .int .i64 we], .agg [.int .i64 x, .int .i64 y], .agg [.int .i64 u, .int .i64 v]] k =
 bif er2 (iceB cx cy sd w h pb po) == 0 then bif er2 (graB fl ke sw be we) == 0 then bif !!([(x, y, ()), (u, v, ())].any offS) then k icN else if 0 < pb.length then if (List.length
 (α := Int) [] + pb.length) * 8 ≤ room then bif bdB cx sd w x u then bif bdB cy sd h y v then touM N (bdF cy sd h y v) (bdT cy sd h y v) (bdF cx sd w x u) (bdT cx sd w x u) w (isC cx
 cy sd w h pb po x y u v) (toB cx cy sd w x y u v) (fun n => wornV n we) ((List.nil (α := Int)) ++ pb) fun t => bif decide (0 < po.length) && decide (po.length ≤ 65536) then k (icO
 cx cy sd w h t po) else none else none else none else none else none else k icN else k icN := by kernel_rfl
set_option maxRecDepth 100000 in
theorem isweep_text (N n0 : Nat) (α : Type) (cx cy sd w h : Int) (pb po : List Int) (x y u v b : Int) (k : AOut → Option α) : evFn real tab ((twY fsI9 spL).env real tab N (n0 + 8)) N Tryz.f48 α [.agg [.int .i64 cx, .int .i64 cy, .int .i64 sd, .int .i64 w, .int .i64 h, .ro (.int .i64) pb, .ro (.int .i64) po], .agg [.int .i64 x, .int .i64 y], .agg [.int .i64 u, .int .i64 v], .int .i64 b] k =
 bif er2 (iceB cx cy sd w h pb po) != 0 then k icN else bif !!([(x, y, ()), (u, v, ())].any offS) then k icN else bif decide (0 ≤ b) then bif !decide (b ≤ 1000) then k icN else if 0
 < po.length then if (List.length (α := Int) [] + po.length) * 8 ≤ room then bif bdB cx sd w x u then bif bdB cy sd h y v then touM N (bdF cy sd h y v) (bdT cy sd h y v) (bdF cx sd w
 x u) (bdT cx sd w x u) w (isC cx cy sd w h pb po x y u v) (toB cx cy sd w x y u v) (fun n => moreV n b) ((List.nil (α := Int)) ++ po) fun t => bif decide (0 < pb.length) && decide
 (pb.length ≤ 65536) then k (icO cx cy sd w h pb t) else none else none else none else none else none else k icN := by kernel_rfl
def i3 (a b e : Int) : AOut := .ret (.tup [.int .i64 a, .int .i64 b, .int .i64 e])
end Go.Proofs.YtnhlnagihokokaaGreat

namespace Go.Proofs.YtnhlnagihokokaaGreat
open Go.RowKit
section
variable {σ τ α β : Type}
def LRes.map (e : σ → τ) (g : α → β) : LRes σ α → LRes τ β
  | .cont x => .cont (e x)
  | .brk id x => .brk id (e x)
  | .fin a => .fin (g a)
theorem iterL_conj (e : σ → τ) (g : α → β) (f : σ → Option (LRes σ α)) (f' : τ → Option (LRes τ β)) (h : ∀ x, f' (e x) = (f x).map (LRes.map e g)) : ∀ N x, iterL N f' (e x) = (iterL N f x).map (LRes.map e g)
  | 0, _ => rfl
  | N + 1, x => by
    simp only [iterL, h x]
    cases hf : f x with
    | none => rfl
    | some r =>
      cases r with
      | cont y => exact iterL_conj e g f f' h N y
      | brk id y => rfl
      | fin a => rfl
theorem loop_conj (e : σ → τ) (g : α → β) (f : σ → Option (LRes σ α)) (f' : τ → Option (LRes τ β)) (h : ∀ x, f' (e x) = (f x).map (LRes.map e g)) (k : Nat → σ → Option α) (k' : Nat → τ → Option β) (hk : ∀ id x, k' id (e x) = (k id x).map g) (N : Nat) (x : σ) :
    afterL (iterL N f' (e x)) k' = (afterL (iterL N f x) k).map g := by
  rw [iterL_conj e g f f' h]
  cases iterL N f x with
  | none => rfl
  | some r =>
    cases r with
    | cont y => rfl
    | brk id y => exact hk id y
    | fin a => rfl
end
abbrev swpE : Int × List Int → List Int × Int × Unit := fun p => (p.2, p.1, ())
theorem setC_map {β γ : Type} (f : Int → Int) (c : Int) (t : List Int) (k : List Int → Option β) (k' : List Int → Option γ) (m : β → γ) (hk : ∀ t, k' t = (k t).map m) : setC f γ c t k' = (setC f β c t k).map m := by
  unfold setC
  split
  · exact hk _
  · rfl
theorem touM_eq {α : Type} (N : Nat) (bf bt cf ct w : Int) (dom hit : Int → Bool) (f : Int → Int) (t0 : List Int) (K : List Int → Option α) : touM N bf bt cf ct w dom hit f t0 K = touL N bf bt cf ct w dom hit (setC f) t0 K := by
  unfold touM touL
  refine (loop_conj swpE (id : α → α) _ _ (fun z => ?_) _ _ (fun id x => ?_) N (bf, t0)).trans (by rw [Option.map_id]; rfl)
  · simp only [swpE]
    cases decide (z.1 ≤ bt)
    · rfl
    · simp only [cond_true]
      refine loop_conj swpE (LRes.map swpE (id : α → α)) _ _ (fun v => ?_) _ _ (fun id x => ?_) N (cf, z.2)
      · simp only [swpE]
        cases decide (v.1 ≤ ct)
        · rfl
        · cases dom (IntKind.i64.wrap (IntKind.i64.wrap (z.1 * w) + v.1))
          · rfl
          · cases hit (IntKind.i64.wrap (IntKind.i64.wrap (z.1 * w) + v.1))
            · rfl
            · simp only [cond_true]
              refine setC_map f _ _ _ _ (LRes.map swpE (LRes.map swpE id)) fun t => rfl
      · simp only [swpE]
        split <;> rfl
  · simp only [swpE]
    split
    · rw [Option.map_id]; rfl
    · rfl
theorem tou_list {α : Type} (cx cy sd w h : Int) (pb po : List Int) (x y u v : Int) (hb : twB cx cy sd w h pb po x y u v = true) (xs : List Int) (hx : (xs.length : Int) = w * h) (f : Int → Int) (K : List Int → Option α) {N : Nat} (hN : 300 < N) :
    touM N (bdF cy sd h y v) (bdT cy sd h y v) (bdF cx sd w x u) (bdT cx sd w x u) w (isC cx cy sd w h pb po x y u v) (toB cx cy sd w x y u v) f xs K = K (chgL (fun n => toB cx cy sd w x y u v n) f xs) := by
  have hb' := hb
  simp only [twB, Bool.and_eq_true] at hb'
  have g := ice_is _ _ _ _ _ _ _ hb'.1
  obtain ⟨c1, c2⟩ := cels_le g.fw g.fh
  have hcl : cels w h = xs.length := by omega
  rw [touM_eq, tou_ice cx cy sd w h pb po x y u v hb (setC f) (updL f) xs (fun β n k hn => ?_) K hN, hcl, fold_chg]
  have hl := fold_len (fun n => toB cx cy sd w x y u v n) f xs n
  unfold setC
  rw [if_pos ⟨by omega, by omega⟩, if_pos ⟨by omega, by omega⟩, Int.toNat_natCast]
  rfl
def pasB (cx cy sd w h : Int) (pb po : List Int) (fl ke sw be we : Int) (x y u v : Int) : Bool := iceB cx cy sd w h pb po && graB fl ke sw be we && (plcB x y && plcB u v)
theorem list_ok {xs : List Int} {w h : Int} (hw : 1 ≤ w ∧ w ≤ 256) (hh : 1 ≤ h ∧ h ≤ 256) (hx : (xs.length : Int) = w * h) : 0 < xs.length ∧ xs.length ≤ 65536 := by
  have a := mul_in (a := w) (b := h) (A := 256) (B := 256) ⟨by omega, by omega⟩ ⟨by omega, by omega⟩
  have b : 1 * 1 ≤ w * h := Int.mul_le_mul hw.1 hh.1 (by omega) (by omega)
  omega
theorem ipass_fin (cx cy sd w h : Int) (pb po : List Int) (fl ke sw be we : Int) (x y u v : Int) (hs : ∀ qSm ∈ ([.agg [.int .i64 cx, .int .i64 cy, .int .i64 sd, .int .i64 w, .int .i64 h, .ro (.int .i64) pb, .ro (.int .i64) po], .agg [.int .i64 fl, .int .i64 ke, .int .i64 sw, .int .i64 be, .int .i64 we], .agg [.int .i64 x, .int .i64 y], .agg [.int .i64 u, .int .i64 v]] : List AVal), Sm qSm) : ∃ N n, ∀ α (k : AOut → Option α), evFn real tab ((twY fsI9 spL).env real tab N n) N Tryz.f47 α [.agg [.int .i64 cx, .int .i64 cy, .int .i64 sd, .int .i64 w, .int .i64 h, .ro (.int .i64) pb, .ro (.int .i64) po], .agg [.int .i64 fl, .int .i64 ke, .int .i64 sw, .int .i64 be, .int .i64 we], .agg [.int .i64 x, .int .i64 y], .agg [.int .i64 u, .int .i64 v]] k = bif pasB cx cy sd w h pb po fl ke sw be we x y u v then k (icO cx cy sd w h (chgL (fun i => toB cx cy sd w x y u v i) (fun i => wornV i we) pb) po) else k (icN) := by
  refine ⟨301, 8, fun α k => (ipass_text 301 0 α cx cy sd w h pb po fl ke sw be we x y u v k).trans ?_⟩
  rw [er2_0, er2_0, any_off2]
  unfold pasB
  cases hI : iceB cx cy sd w h pb po
  · rfl
  cases hG : graB fl ke sw be we
  · rfl
  cases hP : plcB x y && plcB u v
  · rfl
  have g := ice_is _ _ _ _ _ _ _ hI
  have hb : twB cx cy sd w h pb po x y u v = true := by unfold twB; rw [hI, hP]; rfl
  have l1 := list_ok g.fw g.fh g.pl
  have l2 := list_ok g.fw g.fh g.ol
  have hP' := hP
  simp only [Bool.and_eq_true, plc_iff] at hP'
  obtain ⟨hp, hq⟩ := hP'
  rw [bd_of g.fc.1 g.fs g.fw hp.1 hq.1, bd_of g.fc.2 g.fs g.fh hp.2 hq.2]
  simp only [Bool.not_true, Bool.not_false, Bool.and_self, cond_false, cond_true]
  rw [if_pos l1.1, if_pos (by simp [room]; omega), List.nil_append, tou_list cx cy sd w h pb po x y u v hb pb g.pl _ _ (by omega), decide_eq_true l2.1, decide_eq_true l2.2]
  rfl
noncomputable def ipassS : Fsp := fun _ args k => match args with
  | [.agg [.int .i64 cx, .int .i64 cy, .int .i64 sd, .int .i64 w, .int .i64 h, .ro (.int .i64) pb, .ro (.int .i64) po], .agg [.int .i64 fl, .int .i64 ke, .int .i64 sw, .int .i64 be, .int .i64 we], .agg [.int .i64 x, .int .i64 y], .agg [.int .i64 u, .int .i64 v]] => bif pasB cx cy sd w h pb po fl ke sw be we x y u v then k (icO cx cy sd w h (chgL (fun i => toB cx cy sd w x y u v i) (fun i => wornV i we) pb) po) else k (icN)
  | _ => none
theorem ipassS_ok : FspOk Tryz.prog 47 ipassS := tower_Y fsI9_ok spL_ok ⟨Tryz.func47, fun _ _ => by kernel_rfl⟩ (by intro α args k; unfold ipassS; split <;> simp only [cond_bind, Option.bind_some, Option.bind_none]) fun args out hSm hEq => by
  unfold ipassS at hEq
  split at hEq
  · rename_i cx cy sd w h pb po fl ke sw be we x y u v
    obtain ⟨N, n, e⟩ := ipass_fin cx cy sd w h pb po fl ke sw be we x y u v hSm
    exact ⟨N, n, (e AOut some).trans hEq⟩
  · cases hEq
theorem isweep_fin (cx cy sd w h : Int) (pb po : List Int) (x y u v b : Int) (hs : ∀ qSm ∈ ([.agg [.int .i64 cx, .int .i64 cy, .int .i64 sd, .int .i64 w, .int .i64 h, .ro (.int .i64) pb, .ro (.int .i64) po], .agg [.int .i64 x, .int .i64 y], .agg [.int .i64 u, .int .i64 v], .int .i64 b] : List AVal), Sm qSm) : ∃ N n, ∀ α (k : AOut → Option α), evFn real tab ((twY fsI9 spL).env real tab N n) N Tryz.f48 α [.agg [.int .i64 cx, .int .i64 cy, .int .i64 sd, .int .i64 w, .int .i64 h, .ro (.int .i64) pb, .ro (.int .i64) po], .agg [.int .i64 x, .int .i64 y], .agg [.int .i64 u, .int .i64 v], .int .i64 b] k = bif twB cx cy sd w h pb po x y u v && grnB b then k (icO cx cy sd w h pb (chgL (fun i => toB cx cy sd w x y u v i) (fun i => moreV i b) po)) else k (icN) := by
  refine ⟨301, 8, fun α k => (isweep_text 301 0 α cx cy sd w h pb po x y u v b k).trans ?_⟩
  rw [celE_le, er2_0, any_off2]
  unfold grnB
  cases hb : twB cx cy sd w h pb po x y u v
  · have hb' := hb
    unfold twB at hb'
    revert hb'
    cases iceB cx cy sd w h pb po <;> cases plcB x y && plcB u v <;> intro hb' <;> first | rfl | cases hb'
  have hb' := hb
  simp only [twB, Bool.and_eq_true] at hb'
  obtain ⟨hI, hP⟩ := hb'
  have g := ice_is _ _ _ _ _ _ _ hI
  have l1 := list_ok g.fw g.fh g.pl
  have l2 := list_ok g.fw g.fh g.ol
  have hp := plc_iff.1 hP.1
  have hq := plc_iff.1 hP.2
  rw [hI, hP.1, hP.2, bd_of g.fc.1 g.fs g.fw hp.1 hq.1, bd_of g.fc.2 g.fs g.fh hp.2 hq.2]
  cases decide (0 ≤ b)
  · rfl
  cases decide (b ≤ 1000)
  · rfl
  simp only [Bool.not_true, Bool.not_false, Bool.and_self, cond_false, cond_true]
  rw [if_pos l2.1, if_pos (by simp [room]; omega), List.nil_append, tou_list cx cy sd w h pb po x y u v hb po g.ol _ _ (by omega), decide_eq_true l1.1, decide_eq_true l1.2]
  rfl
noncomputable def isweepS : Fsp := fun _ args k => match args with
  | [.agg [.int .i64 cx, .int .i64 cy, .int .i64 sd, .int .i64 w, .int .i64 h, .ro (.int .i64) pb, .ro (.int .i64) po], .agg [.int .i64 x, .int .i64 y], .agg [.int .i64 u, .int .i64 v], .int .i64 b] => bif twB cx cy sd w h pb po x y u v && grnB b then k (icO cx cy sd w h pb (chgL (fun i => toB cx cy sd w x y u v i) (fun i => moreV i b) po)) else k (icN)
  | _ => none
theorem isweepS_ok : FspOk Tryz.prog 48 isweepS := tower_Y fsI9_ok spL_ok ⟨Tryz.func48, fun _ _ => by kernel_rfl⟩ (by intro α args k; unfold isweepS; split <;> simp only [cond_bind, Option.bind_some, Option.bind_none]) fun args out hSm hEq => by
  unfold isweepS at hEq
  split at hEq
  · rename_i cx cy sd w h pb po x y u v b
    obtain ⟨N, n, e⟩ := isweep_fin cx cy sd w h pb po x y u v b hSm
    exact ⟨N, n, (e AOut some).trans hEq⟩
  · cases hEq
end Go.Proofs.YtnhlnagihokokaaGreat

namespace Go.Proofs.YtnhlnagihokokaaGreat
open Go.RowKit
def SimV (u v : AVal) : Prop := ∀ (h : List ABlk) (g : Gh) (w : World) (x : Value), Rep h g w u x → Rep h g w v x
theorem SimV.refl (u : AVal) : SimV u u := fun _ _ _ _ r => r
theorem simV_nils (e : Sh) : SimV .nils (.ro e []) := fun _ _ _ _ r => Sim.rep (.inr ⟨rfl, e, rfl⟩) r
def SimVs : List AVal → List AVal → Prop
  | [], [] => True
  | a :: l, b :: m => SimV a b ∧ SimVs l m
  | _, _ => False
theorem simVs_at : ∀ {l m : List AVal}, SimVs l m → l.length = m.length ∧ ∀ (j : Nat) a b, l[j]? = some a → m[j]? = some b → SimV a b
  | [], [], _ => ⟨rfl, fun j a b ha => by simp at ha⟩
  | a :: l, b :: m, h => by
    obtain ⟨h1, h2⟩ := simVs_at h.2
    refine ⟨by simp [h1], fun j u v hu hv => ?_⟩
    cases j with
    | zero => cases hu; cases hv; exact h.1
    | succ j => exact h2 j u v (by simpa using hu) (by simpa using hv)
  | [], _ :: _, h => by cases h
  | _ :: _, [], h => by cases h
theorem simV_agg {l m : List AVal} (h : SimVs l m) : SimV (.agg l) (.agg m) := fun _ _ _ x r => by
  obtain ⟨h1, h2⟩ := simVs_at h
  cases r with
  | agg _ arr hl hr => exact .agg m arr (by omega) fun j c y hc hy => h2 j _ c (List.getElem?_eq_getElem (by have := (List.getElem?_eq_some_iff.1 hc).1; omega)) hc _ _ _ _ (hr j _ y (List.getElem?_eq_getElem (by have := (List.getElem?_eq_some_iff.1 hc).1; omega)) hy)
theorem simV_tup {l m : List AVal} (h : SimVs l m) : SimV (.tup l) (.tup m) := fun _ _ _ x r => by
  obtain ⟨h1, h2⟩ := simVs_at h
  cases r with
  | tup _ arr hl hr => exact .tup m arr (by omega) fun j c y hc hy => h2 j _ c (List.getElem?_eq_getElem (by have := (List.getElem?_eq_some_iff.1 hc).1; omega)) hc _ _ _ _ (hr j _ y (List.getElem?_eq_getElem (by have := (List.getElem?_eq_some_iff.1 hc).1; omega)) hy)
theorem fsp_sim {P : Program} {f : FuncId} {S S' : Fsp} (h : FspOk P f S) (hn : ∀ (α : Type) args (k : AOut → Option α), S' α args k = (S' AOut args some).bind k)
    (hs : ∀ args out, S' AOut args some = some out → ∃ v v', out = .ret v' ∧ S AOut args some = some (.ret v) ∧ SimV v v') : FspOk P f S' where
  enter := h.enter
  nat := hn
  calls := fun args out hout M w cargs hM hl hr => by
    obtain ⟨v, v', rfl, h1, h2⟩ := hs args out hout
    refine (h.calls args (.ret v) h1 M w cargs hM hl hr).mono fun e w' hp => ?_
    obtain ⟨M', m1, m2, m3, hb, x, he, hx⟩ := hp
    exact ⟨M', m1, m2, m3, hb, x, he, h2 _ _ _ _ hx⟩
def selI (c : Bool) (x : Int) : Int := bif c then x else 0
def selL (c : Bool) (l : List Int) : List Int := bif c then l else []
def icT (c : Bool) (cx cy sd w h : Int) (l1 l2 : List Int) : AOut := .ret (.tup [.agg [.int .i64 (selI c cx), .int .i64 (selI c cy), .int .i64 (selI c sd), .int .i64 (selI c w), .int .i64 (selI c h), .ro (.int .i64) (selL c l1), .ro (.int .i64) (selL c l2)], .int .i64 (er2 c)])
theorem ic_tot (c : Bool) (cx cy sd w h : Int) (l1 l2 : List Int) : ∃ v v', icT c cx cy sd w h l1 l2 = .ret v' ∧ (bif c then some (icO cx cy sd w h l1 l2) else some icN) = some (.ret v) ∧ SimV v v' := by
  cases c
  · refine ⟨_, _, rfl, rfl, simV_tup ⟨simV_agg ⟨.refl _, .refl _, .refl _, .refl _, .refl _, simV_nils _, simV_nils _, trivial⟩, .refl _, trivial⟩⟩
  · exact ⟨_, _, rfl, rfl, .refl _⟩
noncomputable def ipassTS : Fsp := fun _ args k => match args with
  | [.agg [.int .i64 cx, .int .i64 cy, .int .i64 sd, .int .i64 w, .int .i64 h, .ro (.int .i64) pb, .ro (.int .i64) po], .agg [.int .i64 fl, .int .i64 ke, .int .i64 sw, .int .i64 be, .int .i64 we], .agg [.int .i64 x, .int .i64 y], .agg [.int .i64 u, .int .i64 v]] => k (icT (pasB cx cy sd w h pb po fl ke sw be we x y u v) cx cy sd w h (chgL (fun i => toB cx cy sd w x y u v i) (fun i => wornV i we) pb) po)
  | _ => none
theorem ipassTS_ok : FspOk Tryz.prog 47 ipassTS := fsp_sim ipassS_ok (by intro α args k; unfold ipassTS; split <;> rfl) fun args out hq => by
  unfold ipassTS at hq
  split at hq
  · rename_i cx cy sd w h pb po fl ke sw be we x y u v
    cases hq
    obtain ⟨v1, v2, e1, e2, e3⟩ := ic_tot (pasB cx cy sd w h pb po fl ke sw be we x y u v) cx cy sd w h (chgL (fun i => toB cx cy sd w x y u v i) (fun i => wornV i we) pb) po
    refine ⟨v1, v2, e1, ?_, e3⟩
    rw [← e2]
    rfl
  · cases hq
noncomputable def isweepTS : Fsp := fun _ args k => match args with
  | [.agg [.int .i64 cx, .int .i64 cy, .int .i64 sd, .int .i64 w, .int .i64 h, .ro (.int .i64) pb, .ro (.int .i64) po], .agg [.int .i64 x, .int .i64 y], .agg [.int .i64 u, .int .i64 v], .int .i64 b] => k (icT (twB cx cy sd w h pb po x y u v && grnB b) cx cy sd w h pb (chgL (fun i => toB cx cy sd w x y u v i) (fun i => moreV i b) po))
  | _ => none
theorem isweepTS_ok : FspOk Tryz.prog 48 isweepTS := fsp_sim isweepS_ok (by intro α args k; unfold isweepTS; split <;> rfl) fun args out hq => by
  unfold isweepTS at hq
  split at hq
  · rename_i cx cy sd w h pb po x y u v b
    cases hq
    obtain ⟨v1, v2, e1, e2, e3⟩ := ic_tot (twB cx cy sd w h pb po x y u v && grnB b) cx cy sd w h pb (chgL (fun i => toB cx cy sd w x y u v i) (fun i => moreV i b) po)
    refine ⟨v1, v2, e1, ?_, e3⟩
    rw [← e2]
    rfl
  · cases hq
noncomputable def fsI12 : FuncId → Option Fsp := fun g =>
  if g = 47 then some ipassTS else
  if g = 48 then some isweepTS else
  fsI9 g
theorem fsI12_ok : FsOk fsI12 :=
  fs_cons ipassTS_ok <|
  fs_cons isweepTS_ok <|
  fsI9_ok
end Go.Proofs.YtnhlnagihokokaaGreat

namespace Go.Proofs.YtnhlnagihokokaaGreat
open Go.RowKit
def glPanic (e : Int) : List PanicEntry := [{ v := .iface 168 (.agg #[.int .i64 e]), recovered := false }]
theorem glassert_yes (c : Int) (w : World) : (Instr.typeAssert (.iface 168 (.agg #[.int .i64 c])) 20 168 true).run Tryz.prog w = .ok (.tuple #[.agg #[.int .i64 c], .bool true]) w := by kernel_rfl
theorem glassert_nil (w : World) : (Instr.typeAssert .nilIface 20 168 true).run Tryz.prog w = .ok (.tuple #[.agg #[.int .i64 0], .bool false]) w := by kernel_rfl
theorem gltried1_panic (b : Nat) (x c : Int) (w : World) (hp : w.cell? ⟨b, 0, none⟩ = some (.int .i64 x)) (fp : w.frozen? ⟨b, 0, none⟩ = false) (hqb : b < w.heap.size) :
    CallsD Tryz.prog 150 #[.pointer (some ⟨b, 0, none⟩)] (.panicking (glPanic c)) w fun e u' w' =>
      e = .returned (.tuple #[]) ∧ u' = .panicking [{ v := .iface 168 (.agg #[.int .i64 c]), recovered := true }] ∧ w'.cell? ⟨b, 0, none⟩ = some (.int .i64 c) ∧ Exd w.heap.size b w w' := by
  refine callsD_of_wpS Tryz.func150 rfl fun c₀ cs hu => ?_
  apply wpS_seq
  apply wpS_region
  simp [wpOpsS, go_sem, recoverD, hu, glPanic, Tryz.ntmps150, Exit.thenS, Array.replicate, List.replicate]
  refine wpS_of_wp ?_
  clear hu
  have hta := fun w => glassert_yes c w
  have ha : ∀ o, Below w.heap.size w (w.alloc o) := fun o => (Below.refl _ _).alloc (Nat.le_refl _) o
  have hp' : ∀ o, (w.alloc o).cell? ⟨b, 0, none⟩ = some (.int .i64 x) := fun o => ((ha o).cell (p := ⟨b, 0, none⟩) hqb).trans hp
  have fp' : ∀ o, (w.alloc o).frozen? ⟨b, 0, none⟩ = false := fun o => ((ha o).frozen (p := ⟨b, 0, none⟩) hqb).trans fp
  clear ha
  go_wp2
  all_goals
    (try go_big_unhide)
    simp [bodyPostS, results, Tryz.results150, go_sem]
    have hz : (w.setCell ⟨b, 0, none⟩ (.int .i64 c)).heap.size = w.heap.size := by simp [World.setCell]
    have hal : ∀ o, Below w.heap.size (w.setCell ⟨b, 0, none⟩ (.int .i64 c)) ((w.setCell ⟨b, 0, none⟩ (.int .i64 c)).alloc o) := fun o => (Below.refl _ _).alloc (by rw [hz]; exact Nat.le_refl _) o
    refine ⟨((hal _).cell (p := ⟨b, 0, none⟩) hqb).trans (cellSet _ hp), Exd.trans (b := w.setCell ⟨b, 0, none⟩ (.int .i64 c)) (.set _) (Exd.of (hal _))⟩
theorem gltried1_idle (b : Nat) (w : World) :
    CallsD Tryz.prog 150 #[.pointer (some ⟨b, 0, none⟩)] .returning w fun e u' w' =>
      e = .returned (.tuple #[]) ∧ u' = .returning ∧ Below w.heap.size w w' := by
  refine callsD_of_wpS Tryz.func150 rfl fun c₀ cs hu => ?_
  apply wpS_seq
  apply wpS_region
  simp [wpOpsS, go_sem, recoverD, hu, Tryz.ntmps150, Exit.thenS, Array.replicate, List.replicate]
  refine wpS_of_wp ?_
  have hta := fun w => glassert_nil w
  go_wp2
  all_goals
    simp [bodyPostS, results, Tryz.results150, go_sem]
    exact ⟨.returning, by cases c₀; simp_all, rfl, (Below.refl _ _).alloc (Nat.le_refl _) _⟩
set_option maxHeartbeats 1000000 in
theorem gltried_ok (K : FuncId) (caps : Array Value) (Q : World → Prop) (he : ∀ w, (callFunc K caps).run Tryz.prog w = .ok (.enter K caps) w) (w : World)
    (h : ∀ w1, Below w.heap.size w w1 → w.heap.size < w1.heap.size → Calls Tryz.prog K caps w1 fun e w' => e = .returned (.tuple #[]) ∧ w'.heap[w.heap.size]? = w1.heap[w.heap.size]? ∧ w1.heap.size ≤ w'.heap.size ∧ Q w') :
    Calls Tryz.prog 89 #[.func (.func K) #[] caps] w fun e w' => e = .returned (.int .i64 0) ∧ ∃ w2, Q w2 ∧ Exd w2.heap.size w.heap.size w2 w' := by
  have hmf : ∀ (fn : Fn) (first cap : Array Value) (w : World), (Instr.makeFunc fn first cap).run Tryz.prog w = .ok (.func fn first cap) w := fun _ _ _ _ => rfl
  have HH := hidOf h
  have hcall : ∀ w, (callFunc K caps).run Tryz.prog w = .ok (.enter K caps) w := he
  clear h he
  go_enter_defers Tryz.func89, Tryz.ntmps89
  go_wp2_with (go_at_fn K; refine (HH.out _ ((Below.refl _ _).alloc (Nat.le_refl _) _) (by simp)).mono ?_; rintro e w1 ⟨rfl, hb1, hz1, hq⟩; obtain ⟨hc1, hf1⟩ := one_kept hb1; have hz : w.heap.size < w1.heap.size := (by simp at hz1; omega); have hd1 := hc1 0)
  refine leaves_cons (f := 150) (args := #[.pointer (some ⟨w.heap.size, 0, none⟩)]) (by simp) (by simp [go_sem]) ?_
  have hs : (w1.setCell ⟨w.heap.size, 0, none⟩ (.int .i64 0)).heap.size = w1.heap.size := by simp [World.setCell]
  refine (gltried1_idle w.heap.size _).mono ?_
  rintro e u' w2 ⟨rfl, rfl, hb2⟩
  rw [hs] at hb2
  have g1 : w2.cell? ⟨w.heap.size, 0, none⟩ = some (.int .i64 0) := by
    rw [hb2.cell (p := ⟨w.heap.size, 0, none⟩) hz]
    exact cellSet _ hd1
  clear HH hcall hmf hc1 hf1 hd1
  simp [Leaves, settle, results, Tryz.results89, go_sem, g1]
  exact ⟨w1, hq, Exd.trans (.set _) (Exd.of hb2)⟩
set_option maxHeartbeats 1000000 in
theorem gltried_err (K : FuncId) (caps : Array Value) (c : Int) (Q : World → Prop) (he : ∀ w, (callFunc K caps).run Tryz.prog w = .ok (.enter K caps) w) (w : World)
    (h : ∀ w1, Below w.heap.size w w1 → w.heap.size < w1.heap.size → Calls Tryz.prog K caps w1 fun e w' => e = .panicked (glPanic c) ∧ w'.heap[w.heap.size]? = w1.heap[w.heap.size]? ∧ w1.heap.size ≤ w'.heap.size ∧ Q w') :
    Calls Tryz.prog 89 #[.func (.func K) #[] caps] w fun e w' => e = .returned (.int .i64 c) ∧ ∃ w2, Q w2 ∧ Exd w2.heap.size w.heap.size w2 w' := by
  have hmf : ∀ (fn : Fn) (first cap : Array Value) (w : World), (Instr.makeFunc fn first cap).run Tryz.prog w = .ok (.func fn first cap) w := fun _ _ _ _ => rfl
  have HH := hidOf h
  have hcall : ∀ w, (callFunc K caps).run Tryz.prog w = .ok (.enter K caps) w := he
  clear h he
  go_enter_defers Tryz.func89, Tryz.ntmps89
  go_wp2_with (go_at_fn K; refine (HH.out _ ((Below.refl _ _).alloc (Nat.le_refl _) _) (by simp)).mono ?_; rintro e w1 ⟨rfl, hb1, hz1, hq⟩; obtain ⟨hc1, hf1⟩ := one_kept hb1; have hz : w.heap.size < w1.heap.size := (by simp at hz1; omega))
  refine leaves_cons (f := 150) (args := #[.pointer (some ⟨w.heap.size, 0, none⟩)]) (by simp) (by simp [go_sem]) ?_
  refine (gltried1_panic w.heap.size 0 c _ (hc1 0) (hf1 0) hz).mono ?_
  rintro e u' w2 ⟨rfl, rfl, g1, hb2⟩
  clear HH hcall hmf hc1 hf1
  simp [Leaves, settle, results, Tryz.results89, go_sem, g1]
  exact ⟨w1, hq, hb2⟩
theorem gltried_tried : TriedOk Tryz.prog 89 168 :=
  ⟨fun args w => by kernel_rfl, fun K caps Q he w h => gltried_ok K caps Q he w h, fun K caps c Q he w h => gltried_err K caps c Q he w h⟩
noncomputable def spG : FuncId → Option (Cv → Cv) := fun g =>
  if g = 89 then some (triedS 168) else
  spL g
theorem spG_ok : SpOk spG :=
  sp_cons (fun cv h caps => tried_at gltried_tried cv h caps) <|
  spL_ok
end Go.Proofs.YtnhlnagihokokaaGreat

namespace Go.Proofs.YtnhlnagihokokaaGreat
open Go.RowKit
abbrev glmis (e : Int) : AOut := .pan (.ifc 168 (.agg [iN e]))
theorem gmusS_text (N n0 : Nat) (α : Type) (x y e : Int) (k : AOut → Option α) : evFn real tab ((twY fsI12 spG).env real tab N (n0 + 8)) N Tryz.f196 α [.agg [.int .i64 x, .int .i64 y], .int .i64 e] k = bif e != 0 then k (glmis e) else k (.ret (.agg [.int .i64 x, .int .i64 y])) := by kernel_rfl
theorem gmusS_fin (x y e : Int) (hs : ∀ qSm ∈ ([.agg [.int .i64 x, .int .i64 y], .int .i64 e] : List AVal), Sm qSm) : ∃ N n, ∀ α (k : AOut → Option α), evFn real tab ((twY fsI12 spG).env real tab N n) N Tryz.f196 α [.agg [.int .i64 x, .int .i64 y], .int .i64 e] k = bif e != 0 then k (glmis e) else k (.ret (.agg [.int .i64 x, .int .i64 y])) := by
  exact ⟨8, 8, fun α k => gmusS_text 8 0 α x y e k⟩
noncomputable def gmusSS : Fsp := fun _ args k => match args with
  | [.agg [.int .i64 x, .int .i64 y], .int .i64 e] => bif e != 0 then k (glmis e) else k (.ret (.agg [.int .i64 x, .int .i64 y]))
  | _ => none
theorem gmusSS_ok : FspOk Tryz.prog 196 gmusSS := tower_Y fsI12_ok spG_ok ⟨Tryz.func196, fun _ _ => by kernel_rfl⟩ (by intro α args k; unfold gmusSS; split <;> simp only [cond_bind, Option.bind_some, Option.bind_none]) fun args out hSm hEq => by
  unfold gmusSS at hEq
  split at hEq
  · rename_i x y e
    obtain ⟨N, n, e⟩ := gmusS_fin x y e hSm
    exact ⟨N, n, (e AOut some).trans hEq⟩
  · cases hEq
theorem gmusF_text (N n0 : Nat) (α : Type) (x e : Int) (k : AOut → Option α) : evFn real tab ((twY fsI12 spG).env real tab N (n0 + 8)) N Tryz.f193 α [.int .i64 x, .int .i64 e] k = bif e != 0 then k (glmis e) else k (.ret (.int .i64 x)) := by kernel_rfl
theorem gmusF_fin (x e : Int) (hs : ∀ qSm ∈ ([.int .i64 x, .int .i64 e] : List AVal), Sm qSm) : ∃ N n, ∀ α (k : AOut → Option α), evFn real tab ((twY fsI12 spG).env real tab N n) N Tryz.f193 α [.int .i64 x, .int .i64 e] k = bif e != 0 then k (glmis e) else k (.ret (.int .i64 x)) := by
  exact ⟨8, 8, fun α k => gmusF_text 8 0 α x e k⟩
noncomputable def gmusFS : Fsp := fun _ args k => match args with
  | [.int .i64 x, .int .i64 e] => bif e != 0 then k (glmis e) else k (.ret (.int .i64 x))
  | _ => none
theorem gmusFS_ok : FspOk Tryz.prog 193 gmusFS := tower_Y fsI12_ok spG_ok ⟨Tryz.func193, fun _ _ => by kernel_rfl⟩ (by intro α args k; unfold gmusFS; split <;> simp only [cond_bind, Option.bind_some, Option.bind_none]) fun args out hSm hEq => by
  unfold gmusFS at hEq
  split at hEq
  · rename_i x e
    obtain ⟨N, n, e⟩ := gmusF_fin x e hSm
    exact ⟨N, n, (e AOut some).trans hEq⟩
  · cases hEq
noncomputable def fsG1 : FuncId → Option Fsp := fun g =>
  if g = 196 then some gmusSS else
  if g = 193 then some gmusFS else
  fsI12 g
theorem fsG1_ok : FsOk fsG1 :=
  fs_cons gmusSS_ok <|
  fs_cons gmusFS_ok <|
  fsI12_ok
end Go.Proofs.YtnhlnagihokokaaGreat

namespace Go.Proofs.YtnhlnagihokokaaGreat
open Go.RowKit
def onlyS (S : Fsp) : Fsp := fun α args k => S α args fun out => match out with
  | .ret (.tup [v, .int .i64 e]) => bif e == 0 then k (.ret (.tup [v, .int .i64 0])) else none
  | _ => none
theorem only_ok {P : Program} {f : FuncId} {S : Fsp} (h : FspOk P f S) : FspOk P f (onlyS S) := by
  have e : ∀ (α : Type) args (k : AOut → Option α), onlyS S α args k = (S AOut args some).bind fun out => match out with
      | .ret (.tup [v, .int .i64 e]) => bif e == 0 then k (.ret (.tup [v, .int .i64 0])) else none
      | _ => none := fun α args k => h.nat α args _
  refine fsp_sim h (fun α args k => ?_) fun args out hq => ?_
  · rw [e, e]
    cases S AOut args some with
    | none => rfl
    | some out =>
      simp only [Option.bind_some]
      split
      · rename_i v er
        cases er == 0 <;> rfl
      · rfl
  · rw [e] at hq
    cases hs : S AOut args some with
    | none => rw [hs] at hq; cases hq
    | some o =>
      rw [hs] at hq
      simp only [Option.bind_some] at hq
      split at hq
      · rename_i v er
        cases he : er == 0
        · rw [he] at hq; cases hq
        · rw [he] at hq
          have h0 : er = 0 := by simpa using he
          subst h0
          cases hq
          exact ⟨_, _, rfl, rfl, .refl _⟩
      · cases hq
noncomputable def fsG2 : FuncId → Option Fsp := fun g =>
  if g = 194 then some (onlyS flenS) else
  if g = 157 then some (onlyS minusPS) else
  if g = 198 then some (onlyS fmulS) else
  if g = 68 then some (onlyS plusPS) else
  if g = 146 then some (onlyS scaleS) else
  if g = 164 then some (onlyS timesS) else
  if g = 161 then some (onlyS uniS) else
  if g = 195 then some (onlyS ibendS) else
  if g = 36 then some (onlyS islowS) else
  fsG1 g
theorem fsG2_ok : FsOk fsG2 :=
  fs_cons (only_ok flenS_ok) <|
  fs_cons (only_ok minusPS_ok) <|
  fs_cons (only_ok fmulS_ok) <|
  fs_cons (only_ok plusPS_ok) <|
  fs_cons (only_ok scaleS_ok) <|
  fs_cons (only_ok timesS_ok) <|
  fs_cons (only_ok uniS_ok) <|
  fs_cons (only_ok ibendS_ok) <|
  fs_cons (only_ok islowS_ok) <|
  fsG1_ok
end Go.Proofs.YtnhlnagihokokaaGreat

namespace Go.Proofs.YtnhlnagihokokaaGreat
open Go.RowKit
def movB (ax ay vx vy sp : Int) : Bool := plcB ax ay && ((decide (-65536000 ≤ vx) && decide (vx ≤ 65536000)) && (decide (-65536000 ≤ vy) && decide (vy ≤ 65536000))) && (decide (-1000 ≤ sp) && decide (sp ≤ 1000))
set_option maxRecDepth 100000 in
theorem gcheck_text (N n0 : Nat) (α : Type) (ax ay vx vy sp : Int) (k : AOut → Option α) : evFn real tab ((twY fsG2 spG).env real tab N (n0 + 8)) N Tryz.f87 α [.agg [.int .i64 ax, .int .i64 ay, .int .i64 vx, .int .i64 vy, .int .i64 sp]] k =
 bif decide (IntKind.i64.wrap (0 - 6553600000) ≤ ax) then bif decide (ax ≤ 6553600000) then bif decide (IntKind.i64.wrap (0 - 6553600000) ≤ ay) then bif !decide (ay ≤ 6553600000)
 then k (i1 2) else bif decide (IntKind.i64.wrap (0 - 65536000) ≤ vx) then bif decide (vx ≤ 65536000) then bif decide (IntKind.i64.wrap (0 - 65536000) ≤ vy) then bif !decide (vy ≤
 65536000) then k (i1 2) else bif decide (-1000 ≤ sp) then bif !decide (sp ≤ 1000) then k (i1 2) else k (i1 0) else k (i1 2) else k (i1 2) else k (i1 2) else k (i1 2) else k (i1 2)
 else k (i1 2) else k (i1 2) := by kernel_rfl
theorem gcheck_fin (ax ay vx vy sp : Int) (hs : ∀ qSm ∈ ([.agg [.int .i64 ax, .int .i64 ay, .int .i64 vx, .int .i64 vy, .int .i64 sp]] : List AVal), Sm qSm) : ∃ N n, ∀ α (k : AOut → Option α), evFn real tab ((twY fsG2 spG).env real tab N n) N Tryz.f87 α [.agg [.int .i64 ax, .int .i64 ay, .int .i64 vx, .int .i64 vy, .int .i64 sp]] k = k (i1 (er2 (movB ax ay vx vy sp))) := by
  refine ⟨8, 8, fun α k => (gcheck_text 8 0 α ax ay vx vy sp k).trans ?_⟩
  have e1 : IntKind.i64.wrap (0 - 6553600000) = -6553600000 := by decide
  have e2 : IntKind.i64.wrap (0 - 65536000) = -65536000 := by decide
  rw [e1, e2]
  unfold movB plcB
  cases decide (-6553600000 ≤ ax) <;> cases decide (ax ≤ 6553600000) <;> cases decide (-6553600000 ≤ ay) <;> cases decide (ay ≤ 6553600000) <;> first
    | rfl
    | (cases decide (-65536000 ≤ vx) <;> cases decide (vx ≤ 65536000) <;> cases decide (-65536000 ≤ vy) <;> cases decide (vy ≤ 65536000) <;> cases decide (-1000 ≤ sp) <;> cases decide (sp ≤ 1000) <;> rfl)
noncomputable def gcheckS : Fsp := fun _ args k => match args with
  | [.agg [.int .i64 ax, .int .i64 ay, .int .i64 vx, .int .i64 vy, .int .i64 sp]] => k (i1 (er2 (movB ax ay vx vy sp)))
  | _ => none
theorem gcheckS_ok : FspOk Tryz.prog 87 gcheckS := tower_Y fsG2_ok spG_ok ⟨Tryz.func87, fun _ _ => by kernel_rfl⟩ (by intro α args k; unfold gcheckS; split <;> rfl) fun args out hSm hEq => by
  unfold gcheckS at hEq
  split at hEq
  · rename_i ax ay vx vy sp
    obtain ⟨N, n, e⟩ := gcheck_fin ax ay vx vy sp hSm
    exact ⟨N, n, (e AOut some).trans hEq⟩
  · cases hEq
noncomputable def fsG3 : FuncId → Option Fsp := fun g =>
  if g = 87 then some gcheckS else
  fsG2 g
theorem fsG3_ok : FsOk fsG3 :=
  fs_cons gcheckS_ok <|
  fsG2_ok
end Go.Proofs.YtnhlnagihokokaaGreat

namespace Go.Proofs.YtnhlnagihokokaaGreat
open Go.RowKit
section
variable {α : Type}
abbrev mvO (ax ay vx vy sp : Int) : AOut := .ret (.agg [iN ax, iN ay, iN vx, iN vy, iN sp])
noncomputable def tk4 (ax ay sp VX VY : Int) (k : AOut → Option α) : Option α :=
  bif plE ax ay VX VY == 0 then
    bif er2 (movB (plX ax ay VX VY) (plY ax ay VX VY) VX VY sp) != 0 then k (glmis 4) else k (mvO (plX ax ay VX VY) (plY ax ay VX VY) VX VY sp)
  else none
noncomputable def tk3 (ax ay vx vy sp bx by' sx sy : Int) (k : AOut → Option α) : Option α :=
  bif miE vx vy bx by' == 0 then
    bif plE (miX vx vy bx by') (miY vx vy bx by') sx sy == 0 then
      tk4 ax ay sp (plX (miX vx vy bx by') (miY vx vy bx by') sx sy) (plY (miX vx vy bx by') (miY vx vy bx by') sx sy) k
    else none
  else none
noncomputable def tk2 (ax ay vx vy sp B C bx by' lx ly : Int) (k : AOut → Option α) : Option α :=
  bif mpE B C 0 == 0 then
    bif tiE lx ly (mpV B C 0) 0 == 0 then tk3 ax ay vx vy sp bx by' (tiV lx ly (mpV B C 0) 0 lx) (tiV lx ly (mpV B C 0) 0 ly) k else none
  else none
noncomputable def tk1 (ax ay vx vy sp B C ux uy : Int) (k : AOut → Option α) : Option α :=
  bif uniE vx vy == 0 then
    bif tiE ux uy B 0 == 0 then
      bif [ux].all okB then
        bif [uy].all okB then tk2 ax ay vx vy sp B C (tiV ux uy B 0 ux) (tiV ux uy B 0 uy) (IntKind.i64.wrap (0 - uy)) ux k
        else tk2 ax ay vx vy sp B C (tiV ux uy B 0 ux) (tiV ux uy B 0 uy) 0 0 k
      else tk2 ax ay vx vy sp B C (tiV ux uy B 0 ux) (tiV ux uy B 0 uy) 0 0 k
    else none
  else none
noncomputable def tk0 (ax ay vx vy sp n sE slow bend : Int) (k : AOut → Option α) : Option α :=
  bif sE == 0 then
    bif slE slow (IntKind.i64.wrap (5000 - n)) 5000 3 == 0 then
      bif lenE vx vy 1 == 0 then
        bif decide (lenV vx vy 1 ≤ slV slow (IntKind.i64.wrap (5000 - n)) 5000 3) then k (mvO ax ay 0 0 0)
        else bif sE == 0 then
          bif slE bend (IntKind.i64.wrap (2000 - n)) 2000 3 == 0 then
            bif slE (slV bend (IntKind.i64.wrap (2000 - n)) 2000 3) sp 1000 0 == 0 then
              tk1 ax ay vx vy sp (slV slow (IntKind.i64.wrap (5000 - n)) 5000 3) (slV (slV bend (IntKind.i64.wrap (2000 - n)) 2000 3) sp 1000 0) (uniV vx vy vx) (uniV vx vy vy) k
            else none
          else none
        else none
      else none
    else none
  else none
end
set_option maxRecDepth 100000 in
theorem gtick_text (N n0 : Nat) (α : Type) (cx cy sd w h : Int) (pb po : List Int) (fl ke sw be we : Int) (ax ay vx vy sp : Int) (n : Int) (k : AOut → Option α) : evFn real tab ((twY fsG3 spG).env real tab N (n0 + 8)) N Tryz.f153 α [.agg [.int .i64 cx, .int .i64 cy, .int .i64 sd, .int .i64 w, .int .i64 h, .ro (.int .i64) pb, .ro (.int .i64) po, .int .i64 fl, .int .i64 ke, .int .i64 sw, .int .i64 be, .int .i64 we], .agg [.int .i64 ax, .int .i64 ay, .int .i64 vx, .int .i64 vy, .int .i64 sp], .int .i64 n] k =
 tk0 ax ay vx vy sp n (slwE cx cy sd w h pb po fl ke sw be we ax ay) (slwV cx cy sd w h pb po fl ke sw be we ax ay) (bdvV cx cy sd w h pb po fl ke sw be we ax ay) k := by kernel_rfl
end Go.Proofs.YtnhlnagihokokaaGreat

namespace Go.Proofs.YtnhlnagihokokaaGreat
open Go.RowKit
def cutP (a b : Int) : Int := sg (xorB (ngB a) (ngB b)) (ab a * ab b / 65536)
theorem cut_sz (a b : Int) : ab (cutP a b) = ab a * ab b / 65536 := ab_sg _ (Int.ediv_nonneg (Int.mul_nonneg (ab_nn a) (ab_nn b)) (by omega))
theorem cut_in {a b B : Int} (ha : -65536 ≤ a ∧ a ≤ 65536) (hb : -B ≤ b ∧ b ≤ B) : -B ≤ cutP a b ∧ cutP a b ≤ B := by
  rw [← ab_le, cut_sz]
  have h1 : ab a * ab b ≤ ab b * 65536 := by rw [Int.mul_comm (ab b)]; exact Int.mul_le_mul_of_nonneg_right (ab_le.2 ha) (ab_nn b)
  have h2 := div_le (show (0 : Int) < 65536 by omega) h1
  have h3 := ab_le.2 hb
  omega
theorem pr_cut2 {a b : Int} (ha : -1048576 ≤ a ∧ a ≤ 1048576) (hb : -1048576 ≤ b ∧ b ≤ 1048576) : prP a b 0 = ab a * ab b / 65536 ∧ prN a b 0 = ab a * ab b / 65536 ∧ fxB (ab a * ab b / 65536) = true := by
  have h := mul_in ⟨ab_nn a, ab_le.2 ha⟩ ⟨ab_nn b, ab_le.2 hb⟩
  refine ⟨?_, ?_, ?_⟩
  · unfold prP
    rw [rndP_small h.1 (by omega) (by omega), rnd_cut]
  · unfold prN
    rw [rnd_cut]
  · exact decide_eq_true (by omega)
theorem mp_cut {a b : Int} (ha : -1048576 ≤ a ∧ a ≤ 1048576) (hb : -1048576 ≤ b ∧ b ≤ 1048576) : mpE a b 0 = 0 ∧ mpV a b 0 = cutP a b := by
  obtain ⟨p1, _, p3⟩ := pr_cut2 ha hb
  unfold mpE mpV fxE fxV
  rw [ok_le ha (by omega), ok_le hb (by omega), p1, p3]
  exact ⟨rfl, rfl⟩
theorem ti_cut2 {x y b : Int} (hx : -1048576 ≤ x ∧ x ≤ 1048576) (hy : -1048576 ≤ y ∧ y ≤ 1048576) (hb : -1048576 ≤ b ∧ b ≤ 1048576) : tiE x y b 0 = 0 ∧ tiV x y b 0 x = cutP x b ∧ tiV x y b 0 y = cutP y b := by
  obtain ⟨p1, _, p3⟩ := pr_cut2 hx hb
  obtain ⟨q1, _, q3⟩ := pr_cut2 hy hb
  have hk : tiOk x y b = true := by unfold tiOk; rw [ok_le hx (by omega), ok_le hy (by omega), ok_le hb (by omega)]; rfl
  have hf : tiFit x y b 0 = true := by unfold tiFit; rw [p1, p3, q1, q3]; rfl
  unfold tiE tiV
  rw [hk, hf, p1, q1]
  exact ⟨rfl, rfl, rfl⟩
def spnV (c sp : Int) : Int := sg (ngB sp) (c * ab sp / 1000)
theorem spn_in {c sp : Int} (hc : 0 ≤ c ∧ c ≤ 65536) (hs : -1000 ≤ sp ∧ sp ≤ 1000) : (0 ≤ c * ab sp / 1000 ∧ c * ab sp / 1000 ≤ 65536) ∧ (-65536 ≤ spnV c sp ∧ spnV c sp ≤ 65536) := by
  have h := mul_in hc ⟨ab_nn sp, ab_le.2 hs⟩
  have h1 : 0 ≤ c * ab sp / 1000 ∧ c * ab sp / 1000 ≤ 65536 := ⟨Int.ediv_nonneg h.1 (by omega), by omega⟩
  refine ⟨h1, ?_⟩
  rw [← ab_le]
  unfold spnV
  rw [ab_sg _ h1.1]; exact h1.2
theorem sl_spin {c sp : Int} (hc : 0 ≤ c ∧ c ≤ 65536) (hs : -1000 ≤ sp ∧ sp ≤ 1000) : slE c sp 1000 0 = 0 ∧ slV c sp 1000 0 = spnV c sp := by
  have h := mul_in hc ⟨ab_nn sp, ab_le.2 hs⟩
  have hi := (spn_in hc hs).1
  have hg : scG c sp 1000 = ngB sp := by unfold scG; rw [ng_pos hc.1, ng_pos (x := 1000) (by omega)]; cases ngB sp <;> rfl
  have hP : slP c sp 1000 0 = c * ab sp / 1000 := by
    unfold slP
    rw [ab_pos hc.1, show ab 1000 = 1000 from rfl, rndP_small h.1 (by omega) (by omega), rnd_cut]
  have hok : slOk c sp 1000 = true := by
    unfold slOk
    rw [ok_iff.2 (by omega), rate_iff.2 (by omega), rate_iff.2 (by omega)]; rfl
  have hf : fxB (c * ab sp / 1000) = true := decide_eq_true (by omega)
  unfold slE slV fxE fxV
  rw [hok, hP, hg, hf]
  exact ⟨rfl, rfl⟩
structure Dir (vx vy : Int) : Prop where
  ux : -65536 ≤ uniV vx vy vx ∧ uniV vx vy vx ≤ 65536
  uy : -65536 ≤ uniV vx vy vy ∧ uniV vx vy vy ≤ 65536
  e : uniE vx vy = 0
theorem dir_of {dx dy : Int} (hx : okB dx = true) (hy : okB dy = true) (hz : sq2 dx dy ≠ 0) : Dir dx dy := by
  obtain ⟨s1, s2⟩ := shB_of hx hy hz
  have a := shr_in s1
  have b := shr_in s2
  rw [vw_hl] at a b
  obtain ⟨a0, a1, _, _⟩ := a
  obtain ⟨b0, b1, _, _⟩ := b
  have ex : uniV dx dy dx = sg (ngB dx) (shr (ab dx) (sq2 dx dy)) := by unfold uniV uniB; rw [hx, hy, beq_eq_false_iff_ne.2 hz]; rfl
  have ey : uniV dx dy dy = sg (ngB dy) (shr (ab dy) (sq2 dx dy)) := by unfold uniV uniB; rw [hx, hy, beq_eq_false_iff_ne.2 hz]; rfl
  refine ⟨?_, ?_, ?_⟩
  · rw [← ab_le, ex, ab_sg _ a0]; exact a1
  · rw [← ab_le, ey, ab_sg _ b0]; exact b1
  · unfold uniE uniB; rw [hx, hy, beq_eq_false_iff_ne.2 hz]; rfl
theorem len_down {vx vy : Int} (hx : -65536000 ≤ vx ∧ vx ≤ 65536000) (hy : -65536000 ≤ vy ∧ vy ≤ 65536000) : lenE vx vy 1 = 0 ∧ lenV vx vy 1 = rt (sq2 vx vy) ∧ (0 ≤ lenV vx vy 1 ∧ lenV vx vy 1 ≤ 131072000) ∧ (sq2 vx vy = 0 → lenV vx vy 1 = 0) := by
  have m1 := mul_in ⟨ab_nn vx, ab_le.2 hx⟩ ⟨ab_nn vx, ab_le.2 hx⟩
  have m2 := mul_in ⟨ab_nn vy, ab_le.2 hy⟩ ⟨ab_nn vy, ab_le.2 hy⟩
  have hs : 0 ≤ sq2 vx vy ∧ sq2 vx vy ≤ 8589934592000000 := by unfold sq2; omega
  obtain ⟨r0, r1, r2, r3⟩ := rt_spec hs.1 (by omega)
  have hr : rt (sq2 vx vy) ≤ 131072000 := by
    rcases Int.lt_or_le 131072000 (rt (sq2 vx vy)) with c | c
    · have : 131072000 * 131072000 ≤ rt (sq2 vx vy) * rt (sq2 vx vy) := Int.mul_le_mul (by omega) (by omega) (by omega) (by omega)
      omega
    · exact c
  have hn : rtN (sq2 vx vy) 1 = rt (sq2 vx vy) := by
    unfold rtN
    have : rtUp (sq2 vx vy) 1 = false := rfl
    rw [this]
    exact Int.add_zero _
  have hf : fxB (rt (sq2 vx vy)) = true := decide_eq_true (by omega)
  have hV : lenV vx vy 1 = rt (sq2 vx vy) := by
    unfold lenV lenB fxV
    rw [ok_le hx (by omega), ok_le hy (by omega), hn, hf]; rfl
  refine ⟨?_, hV, ?_, fun hz => ?_⟩
  · unfold lenE lenB fxE
    rw [ok_le hx (by omega), ok_le hy (by omega), hn, hf]; rfl
  · rw [hV]; exact ⟨r0, hr⟩
  · rw [hV]
    rw [hz] at r0 r1
    rw [hz]
    rcases Int.lt_or_le 0 (rt 0) with c | c
    · have : 1 * 1 ≤ rt 0 * rt 0 := Int.mul_le_mul (by omega) (by omega) (by omega) (by omega)
      omega
    · omega
def tkB (sl n : Int) : Int := rnd 3 false (sl * (5000 - n)) 5000
def tkC (bd n sp : Int) : Int := spnV (rnd 3 false (bd * (2000 - n)) 2000) sp
noncomputable def tkVX (sl bd vx vy sp n : Int) : Int := vx - cutP (uniV vx vy vx) (tkB sl n) + cutP (-uniV vx vy vy) (cutP (tkB sl n) (tkC bd n sp))
noncomputable def tkVY (sl bd vx vy sp n : Int) : Int := vy - cutP (uniV vx vy vy) (tkB sl n) + cutP (uniV vx vy vx) (cutP (tkB sl n) (tkC bd n sp))
noncomputable def tkR (sl vx vy n : Int) : Bool := decide (lenV vx vy 1 ≤ tkB sl n)
noncomputable def tkM (sl bd ax ay vx vy sp n : Int) : Bool := movB (ax + tkVX sl bd vx vy sp n) (ay + tkVY sl bd vx vy sp n) (tkVX sl bd vx vy sp n) (tkVY sl bd vx vy sp n) sp
noncomputable def tkStep {β : Type} (sl bd ax ay vx vy sp n : Int) (r : Int → Int → Int → Int → Int → β) (z : β) : β :=
  bif tkR sl vx vy n then r ax ay 0 0 0
  else bif tkM sl bd ax ay vx vy sp n then r (ax + tkVX sl bd vx vy sp n) (ay + tkVY sl bd vx vy sp n) (tkVX sl bd vx vy sp n) (tkVY sl bd vx vy sp n) sp
  else z
theorem scl_in {a n d : Int} (ha : 0 ≤ a ∧ a ≤ 65536) (hn : 0 ≤ n ∧ n ≤ d) (hd : 0 < d) : 0 ≤ rnd 3 false (a * n) d ∧ rnd 3 false (a * n) d ≤ a := by
  have h1 : 0 ≤ a * n := Int.mul_nonneg ha.1 hn.1
  have h2 : a * n ≤ a * d := Int.mul_le_mul_of_nonneg_left hn.2 ha.1
  refine ⟨near_nn h1 hd, ?_⟩
  have := near_mono h1 h2 hd
  rwa [near_mul ha.1 hd] at this
theorem mov_iff {ax ay vx vy sp : Int} : movB ax ay vx vy sp = true ↔ ((-6553600000 ≤ ax ∧ ax ≤ 6553600000) ∧ (-6553600000 ≤ ay ∧ ay ≤ 6553600000)) ∧ ((-65536000 ≤ vx ∧ vx ≤ 65536000) ∧ (-65536000 ≤ vy ∧ vy ≤ 65536000)) ∧ (-1000 ≤ sp ∧ sp ≤ 1000) := by
  unfold movB plcB
  simp only [Bool.and_eq_true, decide_eq_true_eq]
  constructor
  · rintro ⟨⟨a, b⟩, c⟩; exact ⟨a, b, c⟩
  · rintro ⟨a, b, c⟩; exact ⟨⟨a, b⟩, c⟩
structure TkOk (sl bd ax ay vx vy sp n : Int) : Prop where
  sl : 0 ≤ sl ∧ sl ≤ 65536
  bd : 0 ≤ bd ∧ bd ≤ 65536
  px : -6553600000 ≤ ax ∧ ax ≤ 6553600000
  py : -6553600000 ≤ ay ∧ ay ≤ 6553600000
  vx : -65536000 ≤ vx ∧ vx ≤ 65536000
  vy : -65536000 ≤ vy ∧ vy ≤ 65536000
  sp : -1000 ≤ sp ∧ sp ≤ 1000
  n : 0 ≤ n ∧ n ≤ 1000
structure TkIs (sl bd vx vy sp n : Int) : Prop where
  b : 0 ≤ tkB sl n ∧ tkB sl n ≤ 65536
  b1 : 0 ≤ rnd 3 false (bd * (2000 - n)) 2000 ∧ rnd 3 false (bd * (2000 - n)) 2000 ≤ 65536
  c : -65536 ≤ tkC bd n sp ∧ tkC bd n sp ≤ 65536
  a : -65536 ≤ cutP (tkB sl n) (tkC bd n sp) ∧ cutP (tkB sl n) (tkC bd n sp) ≤ 65536
theorem tk_is {sl bd ax ay vx vy sp n : Int} (h : TkOk sl bd ax ay vx vy sp n) : TkIs sl bd vx vy sp n := by
  have h1 := h.n
  have b := scl_in h.sl (n := 5000 - n) (d := 5000) ⟨by omega, by omega⟩ (by omega)
  have c := scl_in h.bd (n := 2000 - n) (d := 2000) ⟨by omega, by omega⟩ (by omega)
  have h2 := h.sl
  have h3 := h.bd
  have hb : 0 ≤ tkB sl n ∧ tkB sl n ≤ 65536 := by unfold tkB; omega
  have hc := (spn_in (c := rnd 3 false (bd * (2000 - n)) 2000) ⟨c.1, by omega⟩ h.sp).2
  exact ⟨hb, ⟨c.1, by omega⟩, hc, cut_in (a := tkB sl n) ⟨by omega, by omega⟩ hc⟩
theorem mi_small2 {x y u v B : Int} (hB : B ≤ 35184372088832) (hx : -B ≤ x ∧ x ≤ B) (hy : -B ≤ y ∧ y ≤ B) (hu : -B ≤ u ∧ u ≤ B) (hv : -B ≤ v ∧ v ≤ B) : miE x y u v = 0 ∧ miX x y u v = x - u ∧ miY x y u v = y - v := by
  have h : four x y u v = true := by unfold four; rw [ok_le hx (by omega), ok_le hy (by omega), ok_le hu (by omega), ok_le hv (by omega)]; rfl
  have h1 : fxB (ab (x - u)) = true := decide_eq_true (ab_le.2 ⟨by omega, by omega⟩)
  have h2 : fxB (ab (y - v)) = true := decide_eq_true (ab_le.2 ⟨by omega, by omega⟩)
  unfold miE miX miY miP two2
  rw [h, h1, h2]
  exact ⟨rfl, rfl, rfl⟩
theorem pl_small2 {x y u v B : Int} (hB : B ≤ 35184372088832) (hx : -B ≤ x ∧ x ≤ B) (hy : -B ≤ y ∧ y ≤ B) (hu : -B ≤ u ∧ u ≤ B) (hv : -B ≤ v ∧ v ≤ B) : plE x y u v = 0 ∧ plX x y u v = x + u ∧ plY x y u v = y + v := by
  have h : four x y u v = true := by unfold four; rw [ok_le hx (by omega), ok_le hy (by omega), ok_le hu (by omega), ok_le hv (by omega)]; rfl
  have h1 : fxB (ab (x + u)) = true := decide_eq_true (ab_le.2 ⟨by omega, by omega⟩)
  have h2 : fxB (ab (y + v)) = true := decide_eq_true (ab_le.2 ⟨by omega, by omega⟩)
  unfold plE plX plY plP two2
  rw [h, h1, h2]
  exact ⟨rfl, rfl, rfl⟩
theorem tk4_fin {α : Type} {ax ay sp VX VY : Int} (ha : -6553600000 ≤ ax ∧ ax ≤ 6553600000) (hb : -6553600000 ≤ ay ∧ ay ≤ 6553600000) (hx : -6553600000 ≤ VX ∧ VX ≤ 6553600000) (hy : -6553600000 ≤ VY ∧ VY ≤ 6553600000) (k : AOut → Option α) : tk4 ax ay sp VX VY k = bif movB (ax + VX) (ay + VY) VX VY sp then k (mvO (ax + VX) (ay + VY) VX VY sp) else k (glmis 4) := by
  obtain ⟨e, ex, ey⟩ := pl_small2 (B := 6553600000) (by omega) ha hb hx hy
  unfold tk4
  rw [e, ex, ey]
  cases movB (ax + VX) (ay + VY) VX VY sp <;> rfl
theorem tk3_fin {α : Type} {ax ay vx vy sp bx by' sx sy : Int} (ha : -6553600000 ≤ ax ∧ ax ≤ 6553600000) (hb : -6553600000 ≤ ay ∧ ay ≤ 6553600000) (hvx : -65536000 ≤ vx ∧ vx ≤ 65536000) (hvy : -65536000 ≤ vy ∧ vy ≤ 65536000) (h1 : -65536 ≤ bx ∧ bx ≤ 65536) (h2 : -65536 ≤ by' ∧ by' ≤ 65536) (h3 : -65536 ≤ sx ∧ sx ≤ 65536) (h4 : -65536 ≤ sy ∧ sy ≤ 65536) (k : AOut → Option α) :
    tk3 ax ay vx vy sp bx by' sx sy k = bif movB (ax + (vx - bx + sx)) (ay + (vy - by' + sy)) (vx - bx + sx) (vy - by' + sy) sp then k (mvO (ax + (vx - bx + sx)) (ay + (vy - by' + sy)) (vx - bx + sx) (vy - by' + sy) sp) else k (glmis 4) := by
  obtain ⟨e, ex, ey⟩ := mi_small2 (B := 65536000) (by omega) hvx hvy (u := bx) (v := by') ⟨by omega, by omega⟩ ⟨by omega, by omega⟩
  obtain ⟨f, fx, fy⟩ := pl_small2 (B := 65601536) (x := vx - bx) (y := vy - by') (u := sx) (v := sy) (by omega) ⟨by omega, by omega⟩ ⟨by omega, by omega⟩ ⟨by omega, by omega⟩ ⟨by omega, by omega⟩
  unfold tk3
  rw [e, ex, ey, f, fx, fy]
  exact tk4_fin ha hb ⟨by omega, by omega⟩ ⟨by omega, by omega⟩ k
theorem tk_fin {α : Type} {sl bd ax ay vx vy sp n : Int} (h : TkOk sl bd ax ay vx vy sp n) (k : AOut → Option α) : tk0 ax ay vx vy sp n 0 sl bd k = tkStep sl bd ax ay vx vy sp n (fun a b c d s => k (mvO a b c d s)) (k (glmis 4)) := by
  have g := tk_is h
  have h1 := h.n
  obtain ⟨l1, l2, l3, l4⟩ := len_down h.vx h.vy
  unfold tk0 tkStep
  rw [i64_in (5000 - n) (by omega), i64_in (2000 - n) (by omega), (sl_near h.sl (n := 5000 - n) (d := 5000) ⟨by omega, by omega⟩ ⟨by omega, by omega⟩).1, (sl_near h.sl (n := 5000 - n) (d := 5000) ⟨by omega, by omega⟩ ⟨by omega, by omega⟩).2, (sl_near h.bd (n := 2000 - n) (d := 2000) ⟨by omega, by omega⟩ ⟨by omega, by omega⟩).1, (sl_near h.bd (n := 2000 - n) (d := 2000) ⟨by omega, by omega⟩ ⟨by omega, by omega⟩).2, (sl_spin g.b1 h.sp).1, (sl_spin g.b1 h.sp).2, l1]
  simp only [BEq.rfl, cond_true]
  show (bif tkR sl vx vy n then _ else tk1 ax ay vx vy sp (tkB sl n) (tkC bd n sp) _ _ k) = _
  cases hr : tkR sl vx vy n
  · have hr' : ¬ lenV vx vy 1 ≤ tkB sl n := of_decide_eq_false hr
    have d := dir_of (ok_le h.vx (by omega)) (ok_le h.vy (by omega)) (fun hz => hr' (by rw [l4 hz]; exact g.b.1))
    have dx := d.ux; have dy := d.uy; have gb := g.b; have ga := g.a; have gc := g.c
    have cb := cut_in d.ux (b := tkB sl n) (B := 65536) ⟨by omega, by omega⟩
    have cc := cut_in d.uy (b := tkB sl n) (B := 65536) ⟨by omega, by omega⟩
    have ca := cut_in (a := -uniV vx vy vy) ⟨by omega, by omega⟩ ga
    have cd := cut_in d.ux ga
    obtain ⟨t1, t2, t3⟩ := ti_cut2 (x := uniV vx vy vx) (y := uniV vx vy vy) (b := tkB sl n) ⟨by omega, by omega⟩ ⟨by omega, by omega⟩ ⟨by omega, by omega⟩
    obtain ⟨m1, m2⟩ := mp_cut (a := tkB sl n) (b := tkC bd n sp) ⟨by omega, by omega⟩ ⟨by omega, by omega⟩
    obtain ⟨s1, s2, s3⟩ := ti_cut2 (x := -uniV vx vy vy) (y := uniV vx vy vx) (b := cutP (tkB sl n) (tkC bd n sp)) ⟨by omega, by omega⟩ ⟨by omega, by omega⟩ ⟨by omega, by omega⟩
    have o1 : okB (uniV vx vy vx) = true := ok_le d.ux (by omega)
    have o2 : okB (uniV vx vy vy) = true := ok_le d.uy (by omega)
    unfold tk1 tk2
    rw [i64_in (0 - uniV vx vy vy) (by omega), show 0 - uniV vx vy vy = -uniV vx vy vy by omega, d.e, t1, t2, t3, m1, m2, s1, s2, s3]
    simp only [List.all_cons, List.all_nil, o1, o2, Bool.and_self, BEq.rfl, cond_true, cond_false]
    exact tk3_fin h.px h.py h.vx h.vy cb cc ca cd k
  · rfl
end Go.Proofs.YtnhlnagihokokaaGreat

namespace Go.Proofs.YtnhlnagihokokaaGreat
open Go.RowKit
def rgtB (cx cy sd w h : Int) (pb po : List Int) (fl ke sw be we : Int) (ax ay vx vy sp : Int) (n : Int) : Bool := iceB cx cy sd w h pb po && graB fl ke sw be we && movB ax ay vx vy sp && grnB n
theorem rgt_ok (cx cy sd w h : Int) (pb po : List Int) (fl ke sw be we : Int) (ax ay vx vy sp : Int) (n : Int) (hR : rgtB cx cy sd w h pb po fl ke sw be we ax ay vx vy sp n = true) : TkOk (slwV cx cy sd w h pb po fl ke sw be we ax ay) (bdvV cx cy sd w h pb po fl ke sw be we ax ay) ax ay vx vy sp n ∧ slwE cx cy sd w h pb po fl ke sw be we ax ay = 0 := by
  unfold rgtB at hR
  rw [Bool.and_eq_true, Bool.and_eq_true, Bool.and_eq_true] at hR
  obtain ⟨⟨⟨hi, hg⟩, hm⟩, hn⟩ := hR
  obtain ⟨⟨p1, p2⟩, ⟨v1, v2⟩, s⟩ := mov_iff.1 hm
  have hp : plcB ax ay = true := (plc_iff ..).2 ⟨p1, p2⟩
  have gi := ice_is _ _ _ _ _ _ _ hi
  have gr := gra_is _ _ _ _ _ hg
  have n1 : 0 ≤ n ∧ n ≤ 1000 := by unfold grnB at hn; rwa [in_dec] at hn
  have hp1 := hgt_in gi.pg cx cy sd w h ax ay
  have ho1 := hgt_in gi.og cx cy sd w h ax ay
  refine ⟨⟨?_, ?_, p1, p2, v1, v2, s, n1⟩, ?_⟩
  · unfold slwV
    rw [hi, hg, hp]
    have := brk_in gr hp1 ho1
    have := gr.fl
    simp only [Bool.and_self, cond_true]
    omega
  · unfold bdvV
    rw [hi, hg, hp]
    exact bnd_in gr.be ho1
  · unfold slwE
    rw [hi, hg, hp]; rfl
noncomputable def gtickS : Fsp := fun _ args k => match args with
  | [.agg [.int .i64 cx, .int .i64 cy, .int .i64 sd, .int .i64 w, .int .i64 h, .ro (.int .i64) pb, .ro (.int .i64) po, .int .i64 fl, .int .i64 ke, .int .i64 sw, .int .i64 be, .int .i64 we], .agg [.int .i64 ax, .int .i64 ay, .int .i64 vx, .int .i64 vy, .int .i64 sp], .int .i64 n] => bif rgtB cx cy sd w h pb po fl ke sw be we ax ay vx vy sp n then tkStep (slwV cx cy sd w h pb po fl ke sw be we ax ay) (bdvV cx cy sd w h pb po fl ke sw be we ax ay) ax ay vx vy sp n (fun a b c d s => k (mvO a b c d s)) (k (glmis 4)) else none
  | _ => none
theorem tkStep_bind {α β : Type} (sl bd ax ay vx vy sp n : Int) (r : Int → Int → Int → Int → Int → Option α) (z : Option α) (f : α → Option β) : (tkStep sl bd ax ay vx vy sp n r z).bind f = tkStep sl bd ax ay vx vy sp n (fun a b c d s => (r a b c d s).bind f) (z.bind f) := by
  unfold tkStep
  cases tkR sl vx vy n <;> cases tkM sl bd ax ay vx vy sp n <;> rfl
theorem gtickS_ok : FspOk Tryz.prog 153 gtickS := tower_Y fsG3_ok spG_ok ⟨Tryz.func153, fun _ _ => by kernel_rfl⟩ (by intro α args k; unfold gtickS; split <;> simp only [cond_bind, tkStep_bind, Option.bind_some, Option.bind_none]) fun args out hSm hEq => by
  unfold gtickS at hEq
  split at hEq
  · rename_i cx cy sd w h pb po fl ke sw be we ax ay vx vy sp n
    cases hc : rgtB cx cy sd w h pb po fl ke sw be we ax ay vx vy sp n
    · rw [hc] at hEq; cases hEq
    · rw [hc] at hEq
      obtain ⟨t, e⟩ := rgt_ok _ _ _ _ _ _ _ _ _ _ _ _ _ _ _ _ _ _ hc
      refine ⟨8, 8, (gtick_text 8 0 AOut cx cy sd w h pb po fl ke sw be we ax ay vx vy sp n some).trans ?_⟩
      rw [e]
      exact (tk_fin t some).trans hEq
  · cases hEq
noncomputable def fsG4 : FuncId → Option Fsp := fun g =>
  if g = 153 then some gtickS else
  fsG3 g
theorem fsG4_ok : FsOk fsG4 :=
  fs_cons gtickS_ok <|
  fsG3_ok
abbrev BrI := Int × Int × Int × Unit
def brD : BrI := (0, 0, 0, ())
def brmB (b : BrI) : Bool := decide (0 ≤ b.1) && decide (b.1 ≤ b.2.1) && decide (b.2.1 ≤ 6000) && (decide (0 ≤ b.2.2.1) && decide (b.2.2.1 ≤ 1000))
def oddR (b : BrI) : Bool := !brmB b
def brsB (l : List BrI) : Bool := decide ((l.length : Int) ≤ 64) && l.all brmB
theorem any_oddR (l : List BrI) : l.any oddR = !(l.all brmB) := by
  induction l with
  | nil => rfl
  | cons b l ih =>
    simp only [List.any_cons, List.all_cons, ih]
    unfold oddR
    cases brmB b <;> rfl
def cbrT {α : Type} (l : List BrI) (N : Nat) (k : AOut → Option α) : Option α :=
  bif decide ((l.length : Int) > 64) then k (i1 2)
  else
    afterL
      (iterL N
        (fun (x : Int × PUnit) =>
          bif decide (x.1 < (l.length : Int)) then
            if 0 ≤ x.1 ∧ x.1 < (l.length : Int) then
              bif decide (0 ≤ (l.getD x.1.toNat brD).1) then
                bif !decide ((l.getD x.1.toNat brD).1 ≤ (l.getD x.1.toNat brD).2.1) then finL (bif decide (x.1 ≥ 0) then k (i1 2) else k (i1 0))
                else
                  bif decide ((l.getD x.1.toNat brD).2.1 > 6000) then finL (bif decide (x.1 ≥ 0) then k (i1 2) else k (i1 0))
                  else
                    bif decide (0 ≤ (l.getD x.1.toNat brD).2.2.1) then
                      bif !decide ((l.getD x.1.toNat brD).2.2.1 ≤ 1000) then finL (bif decide (x.1 ≥ 0) then k (i1 2) else k (i1 0))
                      else some (LRes.cont (IntKind.i64.wrap (x.1 + 1), PUnit.unit))
                    else finL (bif decide (x.1 ≥ 0) then k (i1 2) else k (i1 0))
              else finL (bif decide (x.1 ≥ 0) then k (i1 2) else k (i1 0))
            else none
          else some (LRes.brk 0 (x.1, PUnit.unit)))
        (0, PUnit.unit))
      fun (id : Nat) (_ : Int × PUnit) => if id = 0 then k (i1 0) else none
theorem gcbr_text (N n0 : Nat) (α : Type) (l : List BrI) (k : AOut → Option α) : evFn real tab ((twY fsG4 spG).env real tab N (n0 + 8)) N Tryz.f88 α [.ro (.recd (.cons (.int .i64) (.cons (.int .i64) (.cons (.int .i64) .nil)))) l] k = cbrT l N k := by kernel_rfl
theorem gcbr_nil (N n0 : Nat) (α : Type) (k : AOut → Option α) : evFn real tab ((twY fsG4 spG).env real tab (N + 1) (n0 + 8)) (N + 1) Tryz.f88 α [.nils] k = k (i1 0) := by kernel_rfl
theorem cbrT_fin {α : Type} (l : List BrI) (hl : l.length ≤ maxLen) (k : AOut → Option α) : cbrT l (l.length + 1) k = k (i1 (er2 (brsB l))) := by
  unfold cbrT brsB
  rw [gt_le]
  cases decide ((l.length : Int) ≤ 64)
  · rfl
  simp only [Bool.not_true, cond_false, Bool.true_and]
  refine (any_loop (fun i : Nat => ((i : Int), PUnit.unit)) l.length (fun i => oddR (l.getD i brD)) (b := 0) (y := ((l.length : Int), PUnit.unit)) (k (i1 2)) (fun i hi => ?_) ?_).trans ?_
  · simp only [lt_len hi, cond_true]
    rw [if_pos (in_len hi), wrap_next hi hl, Int.toNat_natCast]
    have e : decide ((i : Int) ≥ 0) = true := decide_eq_true (by omega)
    rw [e, gt_le]
    unfold oddR brmB
    cases decide (0 ≤ (l.getD i brD).1)
    · rfl
    cases decide ((l.getD i brD).1 ≤ (l.getD i brD).2.1)
    · rfl
    cases decide ((l.getD i brD).2.1 ≤ 6000)
    · rfl
    cases decide (0 ≤ (l.getD i brD).2.2.1)
    · rfl
    cases decide ((l.getD i brD).2.2.1 ≤ 1000) <;> rfl
  · simp only [not_lt_len, cond_false]
  · rw [any_rangeX l brD oddR, any_oddR]
    cases l.all brmB <;> rfl
noncomputable def gcbrS : Fsp := fun _ args k => match args with
  | [.ro (.recd (.cons (.int .i64) (.cons (.int .i64) (.cons (.int .i64) .nil)))) l] => k (i1 (er2 (brsB l)))
  | [.nils] => k (i1 0)
  | _ => none
theorem gcbrS_ok : FspOk Tryz.prog 88 gcbrS := tower_Y fsG4_ok spG_ok ⟨Tryz.func88, fun _ _ => by kernel_rfl⟩ (by intro α args k; unfold gcbrS; split <;> rfl) fun args out hSm hEq => by
  unfold gcbrS at hEq
  split at hEq
  · rename_i l
    exact ⟨l.length + 1, 8, (gcbr_text (l.length + 1) 0 AOut l some).trans ((cbrT_fin l (hSm _ (by simp)).len some).trans hEq)⟩
  · exact ⟨1, 8, (gcbr_nil 0 0 AOut some).trans hEq⟩
  · cases hEq
def strF (t n : Int) (b : BrI) : Int := bif decide (b.1 ≤ t) && decide (t < b.2.1) then (if n < b.2.2.1 then b.2.2.1 else n) else n
def strN (l : List BrI) (t : Int) : Int := l.foldl (strF t) 0
theorem str_next (l : List BrI) (t : Int) {i : Nat} (hi : i < l.length) : strN (l.take (i + 1)) t = strF t (strN (l.take i) t) (l.getD i brD) := by
  unfold strN
  rw [List.take_add_one, List.getElem?_eq_getElem hi, List.foldl_append, List.getD_eq_getElem?_getD, List.getElem?_eq_getElem hi]
  rfl
theorem brm_of {l : List BrI} (h : l.all brmB = true) {i : Nat} (hi : i < l.length) : brmB (l.getD i brD) = true := by
  rw [List.getD_eq_getElem?_getD, List.getElem?_eq_getElem hi]
  exact List.all_eq_true.1 h _ (List.getElem_mem hi)
theorem brm_iff {b : BrI} : brmB b = true ↔ 0 ≤ b.1 ∧ b.1 ≤ b.2.1 ∧ b.2.1 ≤ 6000 ∧ 0 ≤ b.2.2.1 ∧ b.2.2.1 ≤ 1000 := by
  unfold brmB
  simp only [Bool.and_eq_true, decide_eq_true_eq]
  constructor
  · rintro ⟨⟨⟨a, b⟩, c⟩, d, e⟩; exact ⟨a, b, c, d, e⟩
  · rintro ⟨a, b, c, d, e⟩; exact ⟨⟨⟨a, b⟩, c⟩, d, e⟩
theorem str_in {l : List BrI} (h : l.all brmB = true) (t : Int) : 0 ≤ strN l t ∧ strN l t ≤ 1000 := by
  have H : ∀ (l : List BrI), l.all brmB = true → ∀ n, 0 ≤ n ∧ n ≤ 1000 → 0 ≤ l.foldl (strF t) n ∧ l.foldl (strF t) n ≤ 1000 := by
    intro l
    induction l with
    | nil => intro _ n hn; exact hn
    | cons b l ih =>
      intro hb n hn
      rw [List.all_cons, Bool.and_eq_true] at hb
      obtain ⟨b1, b2⟩ := hb
      have b3 := brm_iff.1 b1
      refine ih b2 (strF t n b) ?_
      unfold strF
      cases decide (b.1 ≤ t) && decide (t < b.2.1)
      · exact hn
      · simp only [cond_true]
        split <;> omega
  exact H l h 0 (by omega)
def strT {α : Type} (l : List BrI) (t : Int) (N : Nat) (k : AOut → Option α) : Option α :=
  afterL
    (iterL N
      (fun (x : Int × Int × PUnit) =>
        bif decide (x.2.1 < (l.length : Int)) then
          if 0 ≤ x.2.1 ∧ x.2.1 < (l.length : Int) then
            bif decide ((l.getD x.2.1.toNat brD).1 ≤ t) then
              bif decide (t ≤ IntKind.i64.wrap ((l.getD x.2.1.toNat brD).2.1 - 1)) then
                some (LRes.cont (if x.1 < (l.getD x.2.1.toNat brD).2.2.1 then (l.getD x.2.1.toNat brD).2.2.1 else x.1, IntKind.i64.wrap (x.2.1 + 1), PUnit.unit))
              else some (LRes.cont (x.1, IntKind.i64.wrap (x.2.1 + 1), PUnit.unit))
            else some (LRes.cont (x.1, IntKind.i64.wrap (x.2.1 + 1), PUnit.unit))
          else none
        else some (LRes.brk 0 (x.1, x.2.1, PUnit.unit)))
      (0, 0, PUnit.unit))
    fun (id : Nat) (y : Int × Int × PUnit) => if id = 0 then k (i1 y.1) else none
theorem gstr_text (N n0 : Nat) (α : Type) (l : List BrI) (t : Int) (k : AOut → Option α) : evFn real tab ((twY fsG4 spG).env real tab N (n0 + 8)) N Tryz.f152 α [.ro (.recd (.cons (.int .i64) (.cons (.int .i64) (.cons (.int .i64) .nil)))) l, .int .i64 t] k = strT l t N k := by kernel_rfl
theorem gstr_nil (N n0 : Nat) (α : Type) (t : Int) (k : AOut → Option α) : evFn real tab ((twY fsG4 spG).env real tab (N + 1) (n0 + 8)) (N + 1) Tryz.f152 α [.nils, .int .i64 t] k = k (i1 0) := by kernel_rfl
theorem strT_fin {α : Type} (l : List BrI) (t : Int) (hl : l.length ≤ maxLen) (hb : l.all brmB = true) (k : AOut → Option α) : strT l t (l.length + 1) k = k (i1 (strN l t)) := by
  unfold strT
  refine (count_loop (fun i : Nat => (strN (l.take i) t, (i : Int), PUnit.unit)) l.length (b := 0) (y := (strN (l.take l.length) t, (l.length : Int), PUnit.unit)) (fun i hi => ?_) ?_ (Nat.lt_succ_self _)).trans ?_
  · simp only [lt_len hi, cond_true]
    have b3 := brm_iff.1 (brm_of hb hi)
    rw [if_pos (in_len hi), wrap_next hi hl, Int.toNat_natCast, str_next l t hi, i64_in ((l.getD i brD).2.1 - 1) (by omega)]
    have e : decide (t ≤ (l.getD i brD).2.1 - 1) = decide (t < (l.getD i brD).2.1) := by rw [decide_eq_decide]; omega
    rw [e]
    unfold strF
    cases decide ((l.getD i brD).1 ≤ t)
    · rfl
    cases decide (t < (l.getD i brD).2.1) <;> rfl
  · simp only [not_lt_len, cond_false]
  · rw [List.take_length]; rfl
noncomputable def gstrS : Fsp := fun _ args k => match args with
  | [.ro (.recd (.cons (.int .i64) (.cons (.int .i64) (.cons (.int .i64) .nil)))) l, .int .i64 t] => bif l.all brmB then k (i1 (strN l t)) else none
  | [.nils, .int .i64 t] => k (i1 0)
  | _ => none
theorem gstrS_ok : FspOk Tryz.prog 152 gstrS := tower_Y fsG4_ok spG_ok ⟨Tryz.func152, fun _ _ => by kernel_rfl⟩ (by intro α args k; unfold gstrS; split <;> simp only [cond_bind, Option.bind_some, Option.bind_none]) fun args out hSm hEq => by
  unfold gstrS at hEq
  split at hEq
  · rename_i l t
    have hEq : (bif List.all (α := BrI) l brmB then some (i1 (strN l t)) else none) = some out := hEq
    cases hb : List.all (α := BrI) l brmB
    · rw [hb] at hEq; cases hEq
    · rw [hb] at hEq
      exact ⟨l.length + 1, 8, (gstr_text (l.length + 1) 0 AOut l t some).trans ((strT_fin l t (hSm _ (by simp)).len hb some).trans hEq)⟩
  · rename_i t
    exact ⟨1, 8, (gstr_nil 0 0 AOut t some).trans hEq⟩
  · cases hEq
noncomputable def fsG5 : FuncId → Option Fsp := fun g =>
  if g = 88 then some gcbrS else
  if g = 152 then some gstrS else
  fsG4 g
theorem fsG5_ok : FsOk fsG5 :=
  fs_cons gcbrS_ok <|
  fs_cons gstrS_ok <|
  fsG4_ok
end Go.Proofs.YtnhlnagihokokaaGreat

namespace Go.Proofs.YtnhlnagihokokaaGreat
open Go.RowKit
def tckB (t : Int) : Bool := decide (0 ≤ t) && decide (t ≤ 6000)
set_option maxRecDepth 100000 in
theorem grgt_text (N n0 : Nat) (α : Type) (cx cy sd w h : Int) (pb po : List Int) (fl ke sw be we : Int) (ax ay vx vy sp : Int) (l : List BrI) (k : AOut → Option α) : evFn real tab ((twY fsG5 spG).env real tab N (n0 + 8)) N Tryz.f37 α [.agg [.int .i64 cx, .int .i64 cy, .int .i64 sd, .int .i64 w, .int .i64 h, .ro (.int .i64) pb, .ro (.int .i64) po, .int .i64 fl, .int .i64 ke, .int .i64 sw, .int .i64 be, .int .i64 we], .agg [.int .i64 ax, .int .i64 ay, .int .i64 vx, .int .i64 vy, .int .i64 sp], .ro (.recd (.cons (.int .i64) (.cons (.int .i64) (.cons (.int .i64) .nil)))) l] k =
 bif er2 (iceB cx cy sd w h pb po) == 0 then bif er2 (graB fl ke sw be we) == 0 then bif er2 (movB ax ay vx vy sp) == 0 then k (AOut.ret (AVal.bool (er2 (brsB l) == 0))) else k
 (AOut.ret (AVal.bool false)) else k (AOut.ret (AVal.bool false)) else k (AOut.ret (AVal.bool false)) := by kernel_rfl
set_option maxRecDepth 100000 in
theorem grg0_text (N n0 : Nat) (α : Type) (cx cy sd w h : Int) (pb po : List Int) (fl ke sw be we : Int) (ax ay vx vy sp : Int) (k : AOut → Option α) : evFn real tab ((twY fsG5 spG).env real tab N (n0 + 8)) N Tryz.f37 α [.agg [.int .i64 cx, .int .i64 cy, .int .i64 sd, .int .i64 w, .int .i64 h, .ro (.int .i64) pb, .ro (.int .i64) po, .int .i64 fl, .int .i64 ke, .int .i64 sw, .int .i64 be, .int .i64 we], .agg [.int .i64 ax, .int .i64 ay, .int .i64 vx, .int .i64 vy, .int .i64 sp], .nils] k =
 bif er2 (iceB cx cy sd w h pb po) == 0 then bif er2 (graB fl ke sw be we) == 0 then bif er2 (movB ax ay vx vy sp) == 0 then k (AOut.ret (AVal.bool (0 == 0))) else k (AOut.ret
 (AVal.bool false)) else k (AOut.ret (AVal.bool false)) else k (AOut.ret (AVal.bool false)) := by kernel_rfl
noncomputable def grgtS : Fsp := fun _ args k => match args with
  | [.agg [.int .i64 cx, .int .i64 cy, .int .i64 sd, .int .i64 w, .int .i64 h, .ro (.int .i64) pb, .ro (.int .i64) po, .int .i64 fl, .int .i64 ke, .int .i64 sw, .int .i64 be, .int .i64 we], .agg [.int .i64 ax, .int .i64 ay, .int .i64 vx, .int .i64 vy, .int .i64 sp], .ro (.recd (.cons (.int .i64) (.cons (.int .i64) (.cons (.int .i64) .nil)))) l] => k (b1 (iceB cx cy sd w h pb po && graB fl ke sw be we && movB ax ay vx vy sp && brsB l))
  | [.agg [.int .i64 cx, .int .i64 cy, .int .i64 sd, .int .i64 w, .int .i64 h, .ro (.int .i64) pb, .ro (.int .i64) po, .int .i64 fl, .int .i64 ke, .int .i64 sw, .int .i64 be, .int .i64 we], .agg [.int .i64 ax, .int .i64 ay, .int .i64 vx, .int .i64 vy, .int .i64 sp], .nils] => k (b1 (iceB cx cy sd w h pb po && graB fl ke sw be we && movB ax ay vx vy sp))
  | _ => none
theorem grgtS_ok : FspOk Tryz.prog 37 grgtS := tower_Y fsG5_ok spG_ok ⟨Tryz.func37, fun _ _ => by kernel_rfl⟩ (by intro α args k; unfold grgtS; split <;> rfl) fun args out hSm hEq => by
  unfold grgtS at hEq
  split at hEq
  · rename_i cx cy sd w h pb po fl ke sw be we ax ay vx vy sp l
    refine ⟨8, 8, (grgt_text 8 0 AOut cx cy sd w h pb po fl ke sw be we ax ay vx vy sp l some).trans (Eq.trans ?_ hEq)⟩
    rw [er2_0, er2_0, er2_0, er2_0]
    cases iceB cx cy sd w h pb po <;> cases graB fl ke sw be we <;> cases movB ax ay vx vy sp <;> rfl
  · rename_i cx cy sd w h pb po fl ke sw be we ax ay vx vy sp
    refine ⟨8, 8, (grg0_text 8 0 AOut cx cy sd w h pb po fl ke sw be we ax ay vx vy sp some).trans (Eq.trans ?_ hEq)⟩
    rw [er2_0, er2_0, er2_0]
    cases iceB cx cy sd w h pb po <;> cases graB fl ke sw be we <;> cases movB ax ay vx vy sp <;> rfl
  · cases hEq
noncomputable def fsG6 : FuncId → Option Fsp := fun g =>
  if g = 37 then some grgtS else
  fsG5 g
theorem fsG6_ok : FsOk fsG6 :=
  fs_cons grgtS_ok <|
  fsG5_ok
end Go.Proofs.YtnhlnagihokokaaGreat

namespace Go.Proofs.YtnhlnagihokokaaGreat
open Go.RowKit
section
variable {S A σ α : Type}
def runL (nx : Nat → S → Option S) (z : S → Bool) : Nat → Nat → S → Option (List S)
  | 0, _, _ => some []
  | n + 1, i, s => bif z s then some [] else match nx i s with
    | none => none
    | some s' => match runL nx z n (i + 1) s' with
      | none => none
      | some l => some (s' :: l)
def lastD (s : S) (l : List S) : S := l.foldl (fun _ x => x) s
theorem run_loop {f : σ → Option (LRes σ α)} {K : Nat → σ → Option α} (nx : Nat → S → Option S) (z : S → Bool) (st : Nat → A → S → σ) (up : A → S → A) (R : Option α) {b M : Nat} (inv : Nat → A → S → Prop)
    (h : ∀ i a s, i < M → inv i a s → z s = false → (nx i s = none → f (st i a s) = finL R) ∧ ∀ s', nx i s = some s' → f (st i a s) = some (.cont (st (i + 1) (up a s') s')) ∧ inv (i + 1) (up a s') s')
    (hz : ∀ i a s, i < M → inv i a s → z s = true → f (st i a s) = some (.brk b (st i a s)))
    (hend : ∀ a s, inv M a s → f (st M a s) = some (.brk b (st M a s))) :
    ∀ (n i : Nat) (a : A) (s : S), i + n = M → inv i a s → ∀ N, n < N → afterL (iterL N f (st i a s)) K = match runL nx z n i s with | none => R | some l => K b (st (i + l.length) (l.foldl up a) (lastD s l)) := by
  intro n
  induction n with
  | zero =>
    intro i a s hi hv N hN
    obtain ⟨N', rfl⟩ : ∃ N', N = N' + 1 := ⟨N - 1, by omega⟩
    have : i = M := by omega
    subst this
    unfold iterL
    rw [hend a s hv]
    rfl
  | succ n ih =>
    intro i a s hi hv N hN
    obtain ⟨N', rfl⟩ : ∃ N', N = N' + 1 := ⟨N - 1, by omega⟩
    unfold iterL runL
    cases hz' : z s
    · obtain ⟨h1, h2⟩ := h i a s (by omega) hv hz'
      cases hn : nx i s with
      | none =>
        rw [h1 hn]
        cases R <;> rfl
      | some s' =>
        obtain ⟨h3, h4⟩ := h2 s' hn
        rw [h3]
        have e := ih (i + 1) (up a s') s' (by omega) h4 N' (by omega)
        simp only [cond_false]
        rw [e]
        cases runL nx z n (i + 1) s' with
        | none => rfl
        | some l =>
          simp only [List.length_cons, List.foldl_cons, lastD]
          rw [show i + 1 + l.length = i + (l.length + 1) by omega]
    · rw [hz i a s (by omega) hv hz']
      rfl
theorem runL_len (nx : Nat → S → Option S) (z : S → Bool) : ∀ (n i : Nat) (s : S) l, runL nx z n i s = some l → l.length ≤ n
  | 0, i, s, l, h => by cases h; exact Nat.le_refl _
  | n + 1, i, s, l, h => by
    unfold runL at h
    cases hz : z s
    · rw [hz] at h
      simp only [cond_false] at h
      cases hn : nx i s with
      | none => rw [hn] at h; cases h
      | some s' =>
        rw [hn] at h
        simp only at h
        cases hr : runL nx z n (i + 1) s' with
        | none => rw [hr] at h; cases h
        | some l' =>
          rw [hr] at h
          cases h
          have := runL_len nx z n (i + 1) s' l' hr
          simp only [List.length_cons]; omega
    · rw [hz] at h; cases h; exact Nat.zero_le _
end
/-! Stones. -/
abbrev St5 := Int × Int × Int × Int × Int
def z5 (s : St5) : Bool := s.2.2.1 == 0 && (s.2.2.2.1 == 0 && true)
def mov5 (s : St5) : Bool := movB s.1 s.2.1 s.2.2.1 s.2.2.2.1 s.2.2.2.2
noncomputable def gnx (cx cy sd w h : Int) (pb po : List Int) (fl ke sw be we : Int) (l : List BrI) (i : Nat) (s : St5) : Option St5 := tkStep (slwV cx cy sd w h pb po fl ke sw be we s.1 s.2.1) (bdvV cx cy sd w h pb po fl ke sw be we s.1 s.2.1) s.1 s.2.1 s.2.2.1 s.2.2.2.1 s.2.2.2.2 (strN l i) (fun a b c d e => some (a, b, c, d, e)) none
theorem gnx_step {β : Type} (cx cy sd w h : Int) (pb po : List Int) (fl ke sw be we : Int) (l : List BrI) (i : Nat) (s : St5) (r : Int → Int → Int → Int → Int → β) (z : β) : tkStep (slwV cx cy sd w h pb po fl ke sw be we s.1 s.2.1) (bdvV cx cy sd w h pb po fl ke sw be we s.1 s.2.1) s.1 s.2.1 s.2.2.1 s.2.2.2.1 s.2.2.2.2 (strN l i) r z = match gnx cx cy sd w h pb po fl ke sw be we l i s with | none => z | some s' => r s'.1 s'.2.1 s'.2.2.1 s'.2.2.2.1 s'.2.2.2.2 := by
  unfold gnx tkStep
  cases tkR (slwV cx cy sd w h pb po fl ke sw be we s.1 s.2.1) s.2.2.1 s.2.2.2.1 (strN l i) <;> cases tkM (slwV cx cy sd w h pb po fl ke sw be we s.1 s.2.1) (bdvV cx cy sd w h pb po fl ke sw be we s.1 s.2.1) s.1 s.2.1 s.2.2.1 s.2.2.2.1 s.2.2.2.2 (strN l i) <;> rfl
theorem rgt5 (cx cy sd w h : Int) (pb po : List Int) (fl ke sw be we : Int) (l : List BrI) (i : Nat) (s : St5) (hi : iceB cx cy sd w h pb po = true) (hg : graB fl ke sw be we = true) (hl : l.all brmB = true) (hs : mov5 s = true) : rgtB cx cy sd w h pb po fl ke sw be we s.1 s.2.1 s.2.2.1 s.2.2.2.1 s.2.2.2.2 (strN l i) = true := by
  have := str_in hl i
  unfold rgtB
  rw [hi, hg, show movB s.1 s.2.1 s.2.2.1 s.2.2.2.1 s.2.2.2.2 = true from hs, show grnB (strN l i) = true from in_dec.2 this]
  rfl
theorem gnx_mov (cx cy sd w h : Int) (pb po : List Int) (fl ke sw be we : Int) (l : List BrI) (i : Nat) (s s' : St5) (hs : mov5 s = true) (hn : gnx cx cy sd w h pb po fl ke sw be we l i s = some s') : mov5 s' = true := by
  unfold gnx tkStep at hn
  cases hr : tkR (slwV cx cy sd w h pb po fl ke sw be we s.1 s.2.1) s.2.2.1 s.2.2.2.1 (strN l i)
  · rw [hr] at hn
    cases hm : tkM (slwV cx cy sd w h pb po fl ke sw be we s.1 s.2.1) (bdvV cx cy sd w h pb po fl ke sw be we s.1 s.2.1) s.1 s.2.1 s.2.2.1 s.2.2.2.1 s.2.2.2.2 (strN l i)
    · rw [hm] at hn; cases hn
    · rw [hm] at hn
      cases hn
      exact hm
  · rw [hr] at hn
    cases hn
    obtain ⟨p, v, sp⟩ := mov_iff.1 hs
    show movB s.1 s.2.1 0 0 0 = true
    exact mov_iff.2 ⟨p, ⟨⟨by omega, by omega⟩, ⟨by omega, by omega⟩⟩, ⟨by omega, by omega⟩⟩
noncomputable def gRL (cx cy sd w h : Int) (pb po : List Int) (fl ke sw be we : Int) (ax ay vx vy sp : Int) (l : List BrI) (m : Int) : Option (List St5) := runL (gnx cx cy sd w h pb po fl ke sw be we l) z5 m.toNat 0 (ax, ay, vx, vy, sp)
def rnP (o : Option (List St5)) (s : St5) : St5 := match o with | none => (0, 0, 0, 0, 0) | some l => lastD s l
def rnT (o : Option (List St5)) : Int := match o with | none => 0 | some l => (l.length : Int)
def rnE (o : Option (List St5)) : Int := match o with | none => 4 | some _ => 0
def rnX (c : Bool) (o : Option (List St5)) (s : St5) : Int := selI c (rnP o s).1
def rnY (c : Bool) (o : Option (List St5)) (s : St5) : Int := selI c (rnP o s).2.1
def rnU (c : Bool) (o : Option (List St5)) (s : St5) : Int := selI c (rnP o s).2.2.1
def rnV (c : Bool) (o : Option (List St5)) (s : St5) : Int := selI c (rnP o s).2.2.2.1
def rnS (c : Bool) (o : Option (List St5)) (s : St5) : Int := selI c (rnP o s).2.2.2.2
def rnN (c : Bool) (o : Option (List St5)) : Int := selI c (rnT o)
def rnZ (c : Bool) (o : Option (List St5)) : Int := bif c then rnE o else 2
def rnO (c : Bool) (o : Option (List St5)) (s : St5) : AOut := .ret (.tup [.agg [.int .i64 (rnX c o s), .int .i64 (rnY c o s), .int .i64 (rnU c o s), .int .i64 (rnV c o s), .int .i64 (rnS c o s)], .int .i64 (rnN c o), .int .i64 (rnZ c o)])
def rnB (cx cy sd w h : Int) (pb po : List Int) (fl ke sw be we : Int) (ax ay vx vy sp : Int) (l : List BrI) (m : Int) : Bool := iceB cx cy sd w h pb po && graB fl ke sw be we && movB ax ay vx vy sp && brsB l && tckB m
/-! Places of a way. -/
abbrev SpI := Int × Int × Unit
def spD : SpI := (0, 0, ())
def sp5 (s : St5) : SpI := (s.1, s.2.1, ())
def wyP (e : Int) (n : Nat) (t : Nat) : Bool := (t : Int).tmod e == 0 || (t : Int) == IntKind.i64.wrap ((n : Int) - 1)
def wayL (e : Int) (L : List SpI) (n : Nat) : List SpI := ((List.range n).filter (wyP e L.length)).map fun t => L.getD t spD
theorem wayL_next (e : Int) (L : List SpI) (n : Nat) : wayL e L (n + 1) = bif wyP e L.length n then wayL e L n ++ [L.getD n spD] else wayL e L n := by
  unfold wayL
  rw [List.range_succ, List.filter_append, List.map_append]
  cases h : wyP e L.length n
  · simp [h]
  · simp [h]
theorem wayL_len (e : Int) (L : List SpI) (n : Nat) : (wayL e L n).length ≤ n := by
  unfold wayL
  rw [List.length_map]
  exact Nat.le_trans (List.length_filter_le _ _) (by simp)
def wyL (c : Bool) (o : Option (List St5)) (s : St5) (e : Int) : List SpI := match c, o with
  | true, some l => wayL e ((s :: l).map sp5) (l.length + 1)
  | _, _ => []
def wyO (c : Bool) (o : Option (List St5)) (s : St5) (e : Int) : AOut := .ret (.tup [.ro (.recd (.cons (.int .i64) (.cons (.int .i64) .nil))) (wyL c o s e : List SpI), .int .i64 (rnZ c o)])
def wyB (e : Int) : Bool := decide (1 ≤ e) && decide (e ≤ 6000)
theorem foldl_snoc {S B : Type} (g : S → B) : ∀ (l : List S) (a : List B), l.foldl (fun a s => a ++ [g s]) a = a ++ l.map g
  | [], a => by simp
  | s :: l, a => by
    rw [List.foldl_cons, foldl_snoc g l (a ++ [g s])]
    simp
end Go.Proofs.YtnhlnagihokokaaGreat

namespace Go.Proofs.YtnhlnagihokokaaGreat
open Go.RowKit
abbrev S12 := Int × Int × Int × Int × Int × Int × Int × Int × Int × Int × Int × Int × Unit
noncomputable def grF {α : Type} (cx cy sd w h : Int) (pb po : List Int) (fl ke sw be we : Int) (l : List BrI) (m : Int) (R : Option α) (x : S12) : Option (LRes S12 α) :=
  bif decide (x.1 < m) then
    bif !(x.2.2.2.2.2.2.2.2.2.1 == 0 && (x.2.2.2.2.2.2.2.2.2.2.1 == 0 && true)) then
      bif l.all brmB then
        bif rgtB cx cy sd w h pb po fl ke sw be we x.2.2.2.2.2.2.2.1 x.2.2.2.2.2.2.2.2.1 x.2.2.2.2.2.2.2.2.2.1 x.2.2.2.2.2.2.2.2.2.2.1 x.2.2.2.2.2.2.2.2.2.2.2.1 (strN l x.1) then
          tkStep (slwV cx cy sd w h pb po fl ke sw be we x.2.2.2.2.2.2.2.1 x.2.2.2.2.2.2.2.2.1) (bdvV cx cy sd w h pb po fl ke sw be we x.2.2.2.2.2.2.2.1 x.2.2.2.2.2.2.2.2.1) x.2.2.2.2.2.2.2.1 x.2.2.2.2.2.2.2.2.1 x.2.2.2.2.2.2.2.2.2.1 x.2.2.2.2.2.2.2.2.2.2.1 x.2.2.2.2.2.2.2.2.2.2.2.1 (strN l x.1) (fun a b c d e => some (.cont (IntKind.i64.wrap (x.1 + 1), IntKind.i64.wrap (x.2.1 + 1), a, b, c, d, e, a, b, c, d, e, ()))) (finL R)
        else none
      else none
    else some (.brk 0 (x.1, x.2.1, x.2.2.1, x.2.2.2.1, x.2.2.2.2.1, x.2.2.2.2.2.1, x.2.2.2.2.2.2.1, x.2.2.2.2.2.2.2.1, x.2.2.2.2.2.2.2.2.1, x.2.2.2.2.2.2.2.2.2.1, x.2.2.2.2.2.2.2.2.2.2.1, x.2.2.2.2.2.2.2.2.2.2.2.1, ()))
  else some (.brk 0 (x.1, x.2.1, x.2.2.1, x.2.2.2.1, x.2.2.2.2.1, x.2.2.2.2.2.1, x.2.2.2.2.2.2.1, x.2.2.2.2.2.2.2.1, x.2.2.2.2.2.2.2.2.1, x.2.2.2.2.2.2.2.2.2.1, x.2.2.2.2.2.2.2.2.2.2.1, x.2.2.2.2.2.2.2.2.2.2.2.1, ()))
abbrev rnErr (e : Int) : AOut := .ret (.tup [.agg [iN 0, iN 0, iN 0, iN 0, iN 0], iN 0, iN e])
noncomputable def grT {α : Type} (N : Nat) (cx cy sd w h : Int) (pb po : List Int) (fl ke sw be we : Int) (ax ay vx vy sp : Int) (l : List BrI) (m : Int) (k : AOut → Option α) : Option α :=
  afterL (iterL N (grF cx cy sd w h pb po fl ke sw be we l m (k (rnErr 4))) (0, 0, ax, ay, vx, vy, sp, ax, ay, vx, vy, sp, ())) fun id y => if id = 0 then k (.ret (.tup [.agg [iN y.2.2.1, iN y.2.2.2.1, iN y.2.2.2.2.1, iN y.2.2.2.2.2.1, iN y.2.2.2.2.2.2.1], iN y.2.1, iN 0])) else none
set_option maxRecDepth 100000 in
theorem gRun_text (N n0 : Nat) (α : Type) (cx cy sd w h : Int) (pb po : List Int) (fl ke sw be we : Int) (ax ay vx vy sp : Int) (l : List BrI) (m : Int) (k : AOut → Option α) : evFn real tab ((twY fsG6 spG).env real tab N (n0 + 12)) N Tryz.f12 α [.agg [.int .i64 cx, .int .i64 cy, .int .i64 sd, .int .i64 w, .int .i64 h, .ro (.int .i64) pb, .ro (.int .i64) po], .agg [.int .i64 fl, .int .i64 ke, .int .i64 sw, .int .i64 be, .int .i64 we], .agg [.int .i64 ax, .int .i64 ay, .int .i64 vx, .int .i64 vy, .int .i64 sp], .ro (.recd (.cons (.int .i64) (.cons (.int .i64) (.cons (.int .i64) .nil)))) l, .int .i64 m] k =
 bif !(iceB cx cy sd w h pb po && graB fl ke sw be we && movB ax ay vx vy sp && brsB l) then k (rnErr 2) else bif decide (0 ≤ m) then bif !decide (m ≤ 6000) then k (rnErr 2) else grT
 N cx cy sd w h pb po fl ke sw be we ax ay vx vy sp l m k else k (rnErr 2) := by kernel_rfl
def st12 (i : Nat) (_ : Unit) (s : St5) : S12 := ((i : Int), (i : Int), s.1, s.2.1, s.2.2.1, s.2.2.2.1, s.2.2.2.2, s.1, s.2.1, s.2.2.1, s.2.2.2.1, s.2.2.2.2, ())
theorem grT_fin {α : Type} (cx cy sd w h : Int) (pb po : List Int) (fl ke sw be we : Int) (ax ay vx vy sp : Int) (l : List BrI) (m : Int) (hi : iceB cx cy sd w h pb po = true) (hg : graB fl ke sw be we = true) (hm : movB ax ay vx vy sp = true) (hl : l.all brmB = true) (h0 : 0 ≤ m ∧ m ≤ 6000) (k : AOut → Option α) : grT (m.toNat + 1) cx cy sd w h pb po fl ke sw be we ax ay vx vy sp l m k = k (rnO true (gRL cx cy sd w h pb po fl ke sw be we ax ay vx vy sp l m) (ax, ay, vx, vy, sp)) := by
  unfold grT
  refine (run_loop (S := St5) (A := Unit) (gnx cx cy sd w h pb po fl ke sw be we l) z5 st12 (fun _ _ => ()) (k (rnErr 4)) (b := 0) (M := m.toNat) (fun _ _ s => mov5 s = true) (fun i a s hM hv hz => ?_) (fun i a s hM hv hz => ?_) (fun a s hv => ?_) m.toNat 0 () (ax, ay, vx, vy, sp) (by omega) hm (m.toNat + 1) (by omega)).trans ?_
  · have e1 : decide (((i : Nat) : Int) < m) = true := decide_eq_true (by omega)
    have e2 : IntKind.i64.wrap ((i : Int) + 1) = ((i + 1 : Nat) : Int) := by rw [i64_in _ (by omega)]; rfl
    have e : grF cx cy sd w h pb po fl ke sw be we l m (k (rnErr 4)) (st12 i a s) = match gnx cx cy sd w h pb po fl ke sw be we l i s with | none => finL (k (rnErr 4)) | some s' => some (.cont (st12 (i + 1) () s')) := by
      unfold grF st12
      simp only [e1, cond_true]
      rw [show (!(s.2.2.1 == 0 && (s.2.2.2.1 == 0 && true))) = true from congrArg (!·) hz, hl, rgt5 cx cy sd w h pb po fl ke sw be we l i s hi hg hl hv, cond_true, cond_true, cond_true, e2]
      exact gnx_step cx cy sd w h pb po fl ke sw be we l i s _ _
    rw [e]
    refine ⟨fun hn => by rw [hn], fun s' hn => ⟨by rw [hn], gnx_mov cx cy sd w h pb po fl ke sw be we l i s s' hv hn⟩⟩
  · have e1 : decide (((i : Nat) : Int) < m) = true := decide_eq_true (by omega)
    unfold grF st12
    simp only [e1, cond_true]
    rw [show (!(s.2.2.1 == 0 && (s.2.2.2.1 == 0 && true))) = false from congrArg (!·) hz]
    rfl
  · have e1 : decide (((m.toNat : Nat) : Int) < m) = false := decide_eq_false (by omega)
    unfold grF st12
    simp only [e1, cond_false]
  · unfold gRL
    cases runL (gnx cx cy sd w h pb po fl ke sw be we l) z5 m.toNat 0 (ax, ay, vx, vy, sp) with
    | none => rfl
    | some L => simp only [st12, Nat.zero_add]; rfl
theorem gRun_fin (cx cy sd w h : Int) (pb po : List Int) (fl ke sw be we : Int) (ax ay vx vy sp : Int) (l : List BrI) (m : Int) (hs : ∀ qSm ∈ ([.agg [.int .i64 cx, .int .i64 cy, .int .i64 sd, .int .i64 w, .int .i64 h, .ro (.int .i64) pb, .ro (.int .i64) po], .agg [.int .i64 fl, .int .i64 ke, .int .i64 sw, .int .i64 be, .int .i64 we], .agg [.int .i64 ax, .int .i64 ay, .int .i64 vx, .int .i64 vy, .int .i64 sp], .ro (.recd (.cons (.int .i64) (.cons (.int .i64) (.cons (.int .i64) .nil)))) l, .int .i64 m] : List AVal), Sm qSm) : ∃ N n, ∀ α (k : AOut → Option α), evFn real tab ((twY fsG6 spG).env real tab N n) N Tryz.f12 α [.agg [.int .i64 cx, .int .i64 cy, .int .i64 sd, .int .i64 w, .int .i64 h, .ro (.int .i64) pb, .ro (.int .i64) po], .agg [.int .i64 fl, .int .i64 ke, .int .i64 sw, .int .i64 be, .int .i64 we], .agg [.int .i64 ax, .int .i64 ay, .int .i64 vx, .int .i64 vy, .int .i64 sp], .ro (.recd (.cons (.int .i64) (.cons (.int .i64) (.cons (.int .i64) .nil)))) l, .int .i64 m] k = k (rnO (rnB cx cy sd w h pb po fl ke sw be we ax ay vx vy sp l m) (gRL cx cy sd w h pb po fl ke sw be we ax ay vx vy sp l m) (ax, ay, vx, vy, sp)) := by
  refine ⟨m.toNat + 1, 12, fun α k => (gRun_text (m.toNat + 1) 0 α cx cy sd w h pb po fl ke sw be we ax ay vx vy sp l m k).trans ?_⟩
  unfold rnB tckB
  cases hi : iceB cx cy sd w h pb po
  · rfl
  cases hg : graB fl ke sw be we
  · rfl
  cases hm : movB ax ay vx vy sp
  · rfl
  cases hb : brsB l
  · rfl
  cases h1 : decide (0 ≤ m)
  · rfl
  cases h2 : decide (m ≤ 6000)
  · rfl
  have hb' := hb
  unfold brsB at hb'
  rw [Bool.and_eq_true] at hb'
  exact grT_fin cx cy sd w h pb po fl ke sw be we ax ay vx vy sp l m hi hg hm hb'.2 ⟨of_decide_eq_true h1, of_decide_eq_true h2⟩ k
noncomputable def gRunS : Fsp := fun _ args k => match args with
  | [.agg [.int .i64 cx, .int .i64 cy, .int .i64 sd, .int .i64 w, .int .i64 h, .ro (.int .i64) pb, .ro (.int .i64) po], .agg [.int .i64 fl, .int .i64 ke, .int .i64 sw, .int .i64 be, .int .i64 we], .agg [.int .i64 ax, .int .i64 ay, .int .i64 vx, .int .i64 vy, .int .i64 sp], .ro (.recd (.cons (.int .i64) (.cons (.int .i64) (.cons (.int .i64) .nil)))) l, .int .i64 m] => k (rnO (rnB cx cy sd w h pb po fl ke sw be we ax ay vx vy sp l m) (gRL cx cy sd w h pb po fl ke sw be we ax ay vx vy sp l m) (ax, ay, vx, vy, sp))
  | _ => none
theorem gRunS_ok : FspOk Tryz.prog 12 gRunS := tower_Y fsG6_ok spG_ok ⟨Tryz.func12, fun _ _ => by kernel_rfl⟩ (by intro α args k; unfold gRunS; split <;> rfl) fun args out hSm hEq => by
  unfold gRunS at hEq
  split at hEq
  · rename_i cx cy sd w h pb po fl ke sw be we ax ay vx vy sp l m
    obtain ⟨N, n, e⟩ := gRun_fin cx cy sd w h pb po fl ke sw be we ax ay vx vy sp l m hSm
    exact ⟨N, n, (e AOut some).trans hEq⟩
  · cases hEq
/-! Way. -/
abbrev S7 := Int × List SpI × Int × Int × Int × Int × Int × Unit
noncomputable def gwF {α : Type} (cx cy sd w h : Int) (pb po : List Int) (fl ke sw be we : Int) (l : List BrI) (m : Int) (R : Option α) (x : S7) : Option (LRes S7 α) :=
  bif decide (x.1 < m) then
    bif !(x.2.2.2.2.1 == 0 && (x.2.2.2.2.2.1 == 0 && true)) then
      bif l.all brmB then
        bif rgtB cx cy sd w h pb po fl ke sw be we x.2.2.1 x.2.2.2.1 x.2.2.2.2.1 x.2.2.2.2.2.1 x.2.2.2.2.2.2.1 (strN l x.1) then
          tkStep (slwV cx cy sd w h pb po fl ke sw be we x.2.2.1 x.2.2.2.1) (bdvV cx cy sd w h pb po fl ke sw be we x.2.2.1 x.2.2.2.1) x.2.2.1 x.2.2.2.1 x.2.2.2.2.1 x.2.2.2.2.2.1 x.2.2.2.2.2.2.1 (strN l x.1) (fun a b c d e => if (x.2.1.length + ([(a, b, ())] : List SpI).length) * 16 ≤ room then some (.cont (IntKind.i64.wrap (x.1 + 1), x.2.1 ++ ([(a, b, ())] : List SpI), a, b, c, d, e, ())) else none) (finL R)
        else none
      else none
    else some (.brk 0 (x.1, x.2.1, x.2.2.1, x.2.2.2.1, x.2.2.2.2.1, x.2.2.2.2.2.1, x.2.2.2.2.2.2.1, ()))
  else some (.brk 0 (x.1, x.2.1, x.2.2.1, x.2.2.2.1, x.2.2.2.2.1, x.2.2.2.2.2.1, x.2.2.2.2.2.2.1, ()))
def gwG {α : Type} (e : Int) (L : List SpI) (x : List SpI × Int × Unit) : Option (LRes (List SpI × Int × Unit) α) :=
  bif decide (x.2.1 < (L.length : Int)) then
    if 0 ≤ x.2.1 ∧ x.2.1 < (L.length : Int) then
      if e = 0 then none
      else
        bif x.2.1.tmod e == 0 then
          if (x.1.length + ([((L.getD x.2.1.toNat spD).1, (L.getD x.2.1.toNat spD).2.1, ())] : List SpI).length) * 16 ≤ room then some (.cont (x.1 ++ [((L.getD x.2.1.toNat spD).1, (L.getD x.2.1.toNat spD).2.1, ())], IntKind.i64.wrap (x.2.1 + 1), ()))
          else none
        else bif x.2.1 == IntKind.i64.wrap ((L.length : Int) - 1) then
          if (x.1.length + ([((L.getD x.2.1.toNat spD).1, (L.getD x.2.1.toNat spD).2.1, ())] : List SpI).length) * 16 ≤ room then some (.cont (x.1 ++ [((L.getD x.2.1.toNat spD).1, (L.getD x.2.1.toNat spD).2.1, ())], IntKind.i64.wrap (x.2.1 + 1), ()))
          else none
        else some (.cont (x.1, IntKind.i64.wrap (x.2.1 + 1), ()))
    else none
  else some (.brk 0 (x.1, x.2.1, ()))
abbrev wyErr (e : Int) : AOut := .ret (.tup [.ro (.recd (.cons (.int .i64) (.cons (.int .i64) .nil))) ([] : List SpI), iN e])
def gwKK {α : Type} (N : Nat) (e : Int) (L : List SpI) (K : List SpI → Option α) : Option α :=
  afterL (iterL N (gwG e L) ([], 0, ())) fun id y => if id = 0 then K y.1 else none
noncomputable def gwTT {α : Type} (N : Nat) (cx cy sd w h : Int) (pb po : List Int) (fl ke sw be we : Int) (ax ay vx vy sp : Int) (l : List BrI) (m e : Int) (R : Option α) (K : List SpI → Option α) : Option α :=
  afterL (iterL N (gwF cx cy sd w h pb po fl ke sw be we l m R) (0, [(ax, ay, ())], ax, ay, vx, vy, sp, ())) fun id y => if id = 0 then gwKK N e y.2.1 K else none
set_option maxRecDepth 100000 in
theorem gWay_text (N n0 : Nat) (α : Type) (cx cy sd w h : Int) (pb po : List Int) (fl ke sw be we : Int) (ax ay vx vy sp : Int) (l : List BrI) (m e : Int) (k : AOut → Option α) : evFn real tab ((twY fsG6 spG).env real tab N (n0 + 12)) N Tryz.f13 α [.agg [.int .i64 cx, .int .i64 cy, .int .i64 sd, .int .i64 w, .int .i64 h, .ro (.int .i64) pb, .ro (.int .i64) po], .agg [.int .i64 fl, .int .i64 ke, .int .i64 sw, .int .i64 be, .int .i64 we], .agg [.int .i64 ax, .int .i64 ay, .int .i64 vx, .int .i64 vy, .int .i64 sp], .ro (.recd (.cons (.int .i64) (.cons (.int .i64) (.cons (.int .i64) .nil)))) l, .int .i64 m, .int .i64 e] k =
 bif !(iceB cx cy sd w h pb po && graB fl ke sw be we && movB ax ay vx vy sp && brsB l) then k (wyErr 2) else bif decide (0 ≤ m) then bif !decide (m ≤ 6000) then k (wyErr 2) else bif
 decide (1 ≤ e) then bif !decide (e ≤ 6000) then k (wyErr 2) else gwTT N cx cy sd w h pb po fl ke sw be we ax ay vx vy sp l m e (k (wyErr 4)) (fun L => k (.ret (.tup [.ro (.recd
 (.cons (.int .i64) (.cons (.int .i64) .nil))) L, iN 0]))) else k (wyErr 2) else k (wyErr 2) := by kernel_rfl
theorem gwKK_fin {α : Type} {e : Int} (he : 1 ≤ e) {L : List SpI} (hL : L.length ≤ 10000) (N : Nat) (hN : L.length < N) (K : List SpI → Option α) : gwKK N e L K = K (wayL e L L.length) := by
  unfold gwKK
  refine (count_loop (fun i : Nat => (wayL e L i, (i : Int), ())) L.length (b := 0) (y := (wayL e L L.length, (L.length : Int), ())) (fun i hi => ?_) ?_ hN).trans ?_
  · unfold gwG
    have hl := wayL_len e L i
    simp only [lt_len hi, cond_true]
    rw [if_pos (in_len hi), if_neg (by omega), i64_in ((i : Int) + 1) (by omega), wayL_next, Int.toNat_natCast]
    unfold wyP
    have hr : ((wayL e L i).length + ([((L.getD i spD).1, (L.getD i spD).2.1, ())] : List SpI).length) * 16 ≤ room := by simp only [List.length_singleton, room]; omega
    rw [if_pos hr]
    cases (i : Int).tmod e == 0
    · cases (i : Int) == IntKind.i64.wrap ((L.length : Int) - 1) <;> rfl
    · rfl
  · unfold gwG
    simp only [not_lt_len, cond_false]
  · rfl
def st7 (i : Nat) (a : List SpI) (s : St5) : S7 := ((i : Int), a, s.1, s.2.1, s.2.2.1, s.2.2.2.1, s.2.2.2.2, ())
theorem gwTT_fin {α : Type} (cx cy sd w h : Int) (pb po : List Int) (fl ke sw be we : Int) (ax ay vx vy sp : Int) (l : List BrI) (m e : Int) (hi : iceB cx cy sd w h pb po = true) (hg : graB fl ke sw be we = true) (hm : movB ax ay vx vy sp = true) (hl : l.all brmB = true) (h0 : 0 ≤ m ∧ m ≤ 6000) (he : 1 ≤ e) (N : Nat) (hN : m.toNat + 2 ≤ N) (R : Option α) (K : List SpI → Option α) : gwTT N cx cy sd w h pb po fl ke sw be we ax ay vx vy sp l m e R K = match gRL cx cy sd w h pb po fl ke sw be we ax ay vx vy sp l m with | none => R | some L => K (wayL e (((ax, ay, vx, vy, sp) :: L).map sp5) (L.length + 1)) := by
  unfold gwTT
  refine (run_loop (S := St5) (A := List SpI) (gnx cx cy sd w h pb po fl ke sw be we l) z5 st7 (fun a s => a ++ [sp5 s]) R (b := 0) (M := m.toNat) (fun i a s => mov5 s = true ∧ a.length = i + 1) (fun i a s hM hv hz => ?_) (fun i a s hM hv hz => ?_) (fun a s hv => ?_) m.toNat 0 [(ax, ay, ())] (ax, ay, vx, vy, sp) (by omega) ⟨hm, rfl⟩ N (by omega)).trans ?_
  · have e1 : decide (((i : Nat) : Int) < m) = true := decide_eq_true (by omega)
    have e2 : IntKind.i64.wrap ((i : Int) + 1) = ((i + 1 : Nat) : Int) := by rw [i64_in _ (by omega)]; rfl
    have er : (a.length + 1) * 16 ≤ room := by have := hv.2; simp only [room]; omega
    have e : gwF cx cy sd w h pb po fl ke sw be we l m R (st7 i a s) = match gnx cx cy sd w h pb po fl ke sw be we l i s with | none => finL R | some s' => some (.cont (st7 (i + 1) (a ++ [sp5 s']) s')) := by
      unfold gwF st7
      simp only [e1, cond_true]
      rw [show (!(s.2.2.1 == 0 && (s.2.2.2.1 == 0 && true))) = true from congrArg (!·) hz, hl, rgt5 cx cy sd w h pb po fl ke sw be we l i s hi hg hl hv.1, cond_true, cond_true, cond_true, e2]
      simp only [List.length_singleton, if_pos er]
      exact gnx_step cx cy sd w h pb po fl ke sw be we l i s _ _
    rw [e]
    refine ⟨fun hn => by rw [hn], fun s' hn => ⟨by rw [hn], gnx_mov cx cy sd w h pb po fl ke sw be we l i s s' hv.1 hn, by rw [List.length_append, List.length_singleton, hv.2]⟩⟩
  · have e1 : decide (((i : Nat) : Int) < m) = true := decide_eq_true (by omega)
    unfold gwF st7
    simp only [e1, cond_true]
    rw [show (!(s.2.2.1 == 0 && (s.2.2.2.1 == 0 && true))) = false from congrArg (!·) hz]
    rfl
  · have e1 : decide (((m.toNat : Nat) : Int) < m) = false := decide_eq_false (by omega)
    unfold gwF st7
    simp only [e1, cond_false]
  · unfold gRL
    cases hr : runL (gnx cx cy sd w h pb po fl ke sw be we l) z5 m.toNat 0 (ax, ay, vx, vy, sp) with
    | none => rfl
    | some L =>
      have hL := runL_len _ _ _ _ _ _ hr
      have ef : L.foldl (fun a s => a ++ [sp5 s]) [(ax, ay, ())] = ((ax, ay, vx, vy, sp) :: L).map sp5 := by rw [foldl_snoc]; rfl
      simp only [st7, ef, if_pos]
      rw [gwKK_fin he (by simp only [List.length_map, List.length_cons]; omega) _ (by simp only [List.length_map, List.length_cons]; omega)]
      simp only [List.length_map, List.length_cons]
theorem gWay_fin (cx cy sd w h : Int) (pb po : List Int) (fl ke sw be we : Int) (ax ay vx vy sp : Int) (l : List BrI) (m e : Int) (hs : ∀ qSm ∈ ([.agg [.int .i64 cx, .int .i64 cy, .int .i64 sd, .int .i64 w, .int .i64 h, .ro (.int .i64) pb, .ro (.int .i64) po], .agg [.int .i64 fl, .int .i64 ke, .int .i64 sw, .int .i64 be, .int .i64 we], .agg [.int .i64 ax, .int .i64 ay, .int .i64 vx, .int .i64 vy, .int .i64 sp], .ro (.recd (.cons (.int .i64) (.cons (.int .i64) (.cons (.int .i64) .nil)))) l, .int .i64 m, .int .i64 e] : List AVal), Sm qSm) : ∃ N n, ∀ α (k : AOut → Option α), evFn real tab ((twY fsG6 spG).env real tab N n) N Tryz.f13 α [.agg [.int .i64 cx, .int .i64 cy, .int .i64 sd, .int .i64 w, .int .i64 h, .ro (.int .i64) pb, .ro (.int .i64) po], .agg [.int .i64 fl, .int .i64 ke, .int .i64 sw, .int .i64 be, .int .i64 we], .agg [.int .i64 ax, .int .i64 ay, .int .i64 vx, .int .i64 vy, .int .i64 sp], .ro (.recd (.cons (.int .i64) (.cons (.int .i64) (.cons (.int .i64) .nil)))) l, .int .i64 m, .int .i64 e] k = k (wyO (rnB cx cy sd w h pb po fl ke sw be we ax ay vx vy sp l m && wyB e) (gRL cx cy sd w h pb po fl ke sw be we ax ay vx vy sp l m) (ax, ay, vx, vy, sp) e) := by
  refine ⟨m.toNat + 2, 12, fun α k => (gWay_text (m.toNat + 2) 0 α cx cy sd w h pb po fl ke sw be we ax ay vx vy sp l m e k).trans ?_⟩
  unfold rnB tckB wyB
  cases hi : iceB cx cy sd w h pb po
  · rfl
  cases hg : graB fl ke sw be we
  · rfl
  cases hm : movB ax ay vx vy sp
  · rfl
  cases hb : brsB l
  · rfl
  cases h1 : decide (0 ≤ m)
  · rfl
  cases h2 : decide (m ≤ 6000)
  · rfl
  cases h3 : decide (1 ≤ e)
  · rfl
  cases h4 : decide (e ≤ 6000)
  · rfl
  have hb' := hb
  unfold brsB at hb'
  rw [Bool.and_eq_true] at hb'
  refine (gwTT_fin cx cy sd w h pb po fl ke sw be we ax ay vx vy sp l m e hi hg hm hb'.2 ⟨of_decide_eq_true h1, of_decide_eq_true h2⟩ (of_decide_eq_true h3) _ (Nat.le_refl _) _ _).trans ?_
  cases gRL cx cy sd w h pb po fl ke sw be we ax ay vx vy sp l m <;> rfl
noncomputable def gWayS : Fsp := fun _ args k => match args with
  | [.agg [.int .i64 cx, .int .i64 cy, .int .i64 sd, .int .i64 w, .int .i64 h, .ro (.int .i64) pb, .ro (.int .i64) po], .agg [.int .i64 fl, .int .i64 ke, .int .i64 sw, .int .i64 be, .int .i64 we], .agg [.int .i64 ax, .int .i64 ay, .int .i64 vx, .int .i64 vy, .int .i64 sp], .ro (.recd (.cons (.int .i64) (.cons (.int .i64) (.cons (.int .i64) .nil)))) l, .int .i64 m, .int .i64 e] => k (wyO (rnB cx cy sd w h pb po fl ke sw be we ax ay vx vy sp l m && wyB e) (gRL cx cy sd w h pb po fl ke sw be we ax ay vx vy sp l m) (ax, ay, vx, vy, sp) e)
  | _ => none
theorem gWayS_ok : FspOk Tryz.prog 13 gWayS := tower_Y fsG6_ok spG_ok ⟨Tryz.func13, fun _ _ => by kernel_rfl⟩ (by intro α args k; unfold gWayS; split <;> rfl) fun args out hSm hEq => by
  unfold gWayS at hEq
  split at hEq
  · rename_i cx cy sd w h pb po fl ke sw be we ax ay vx vy sp l m e
    obtain ⟨N, n, e⟩ := gWay_fin cx cy sd w h pb po fl ke sw be we ax ay vx vy sp l m e hSm
    exact ⟨N, n, (e AOut some).trans hEq⟩
  · cases hEq
noncomputable def fsG7 : FuncId → Option Fsp := fun g =>
  if g = 12 then some gRunS else
  if g = 13 then some gWayS else
  fsG6 g
theorem fsG7_ok : FsOk fsG7 :=
  fs_cons gRunS_ok <|
  fs_cons gWayS_ok <|
  fsG6_ok
end Go.Proofs.YtnhlnagihokokaaGreat
