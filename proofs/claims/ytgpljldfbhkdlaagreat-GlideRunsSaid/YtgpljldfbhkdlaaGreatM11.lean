/- Parts of the proof, in build order. -/
import Derived.Test.YtgpljldfbhkdlaaGreatM10
import Derived.Test.YtgpljldfbhkdlaaGreatM7
import Derived.Test.YtgpljldfbhkdlaaGreatM8
/- Contracts of the ice without cases: their results as total functions. -/
namespace Go.Proofs.YtgpljldfbhkdlaaGreat
open Go.RowKit

/-- Whatever is the one is the other. -/
def SimV (u v : AVal) : Prop := ∀ (h : List ABlk) (g : Gh) (w : World) (x : Value), Rep h g w u x → Rep h g w v x
theorem SimV.refl (u : AVal) : SimV u u := fun _ _ _ _ r => r
theorem simV_nils (e : Sh) : SimV .nils (.ro e []) := fun _ _ _ _ r => Sim.rep (.inr ⟨rfl, e, rfl⟩) r
def SimVs : List AVal → List AVal → Prop
  | [], [] => True
  | a :: l, b :: m => SimV a b ∧ SimVs l m
  | _, _ => False
theorem simVs_at : ∀ {l m : List AVal}, SimVs l m → l.length = m.length ∧ ∀ (j : Nat) a b, l[j]? = some a → m[j]? = some b → SimV a b
  | [], [], _ => ⟨rfl, fun j a b ha => by simp at ha⟩
  | a :: l, b :: m, h => by
    obtain ⟨h1, h2⟩ := simVs_at h.2
    refine ⟨by simp [h1], fun j u v hu hv => ?_⟩
    cases j with
    | zero => cases hu; cases hv; exact h.1
    | succ j => exact h2 j u v (by simpa using hu) (by simpa using hv)
  | [], _ :: _, h => by cases h
  | _ :: _, [], h => by cases h
theorem simV_agg {l m : List AVal} (h : SimVs l m) : SimV (.agg l) (.agg m) := fun _ _ _ x r => by
  obtain ⟨h1, h2⟩ := simVs_at h
  cases r with
  | agg _ arr hl hr => exact .agg m arr (by omega) fun j c y hc hy => h2 j _ c (List.getElem?_eq_getElem (by have := (List.getElem?_eq_some_iff.1 hc).1; omega)) hc _ _ _ _ (hr j _ y (List.getElem?_eq_getElem (by have := (List.getElem?_eq_some_iff.1 hc).1; omega)) hy)
theorem simV_tup {l m : List AVal} (h : SimVs l m) : SimV (.tup l) (.tup m) := fun _ _ _ x r => by
  obtain ⟨h1, h2⟩ := simVs_at h
  cases r with
  | tup _ arr hl hr => exact .tup m arr (by omega) fun j c y hc hy => h2 j _ c (List.getElem?_eq_getElem (by have := (List.getElem?_eq_some_iff.1 hc).1; omega)) hc _ _ _ _ (hr j _ y (List.getElem?_eq_getElem (by have := (List.getElem?_eq_some_iff.1 hc).1; omega)) hy)
/-- A contract that says less. -/
theorem fsp_sim {P : Program} {f : FuncId} {S S' : Fsp} (h : FspOk P f S) (hn : ∀ (α : Type) args (k : AOut → Option α), S' α args k = (S' AOut args some).bind k)
    (hs : ∀ args out, S' AOut args some = some out → ∃ v v', out = .ret v' ∧ S AOut args some = some (.ret v) ∧ SimV v v') : FspOk P f S' where
  enter := h.enter
  nat := hn
  calls := fun args out hout M w cargs hM hl hr => by
    obtain ⟨v, v', rfl, h1, h2⟩ := hs args out hout
    refine (h.calls args (.ret v) h1 M w cargs hM hl hr).mono fun e w' hp => ?_
    obtain ⟨M', m1, m2, m3, hb, x, he, hx⟩ := hp
    exact ⟨M', m1, m2, m3, hb, x, he, h2 _ _ _ _ hx⟩
def selI (c : Bool) (x : Int) : Int := bif c then x else 0
def selL (c : Bool) (l : List Int) : List Int := bif c then l else []
/-- Ice, or its error. -/
def icT (c : Bool) (cx cy sd w h : Int) (l1 l2 : List Int) : AOut := .ret (.tup [.agg [.int .i64 (selI c cx), .int .i64 (selI c cy), .int .i64 (selI c sd), .int .i64 (selI c w), .int .i64 (selI c h), .ro (.int .i64) (selL c l1), .ro (.int .i64) (selL c l2)], .int .i64 (er2 c)])
theorem ic_tot (c : Bool) (cx cy sd w h : Int) (l1 l2 : List Int) : ∃ v v', icT c cx cy sd w h l1 l2 = .ret v' ∧ (bif c then some (icO cx cy sd w h l1 l2) else some icN) = some (.ret v) ∧ SimV v v' := by
  cases c
  · refine ⟨_, _, rfl, rfl, simV_tup ⟨simV_agg ⟨.refl _, .refl _, .refl _, .refl _, .refl _, simV_nils _, simV_nils _, trivial⟩, .refl _, trivial⟩⟩
  · exact ⟨_, _, rfl, rfl, .refl _⟩
def i3T (c : Bool) (a b : Int) : AOut := i3 (selI c a) (selI c b) (er2 c)
theorem i3_tot (c : Bool) (a b : Int) : ∃ v v', i3T c a b = .ret v' ∧ (bif c then some (i3 a b 0) else some (i3 0 0 2)) = some (.ret v) ∧ SimV v v' := by
  cases c
  · exact ⟨_, _, rfl, rfl, .refl _⟩
  · exact ⟨_, _, rfl, rfl, .refl _⟩
noncomputable def ipassTS : Fsp := fun _ args k => match args with
  | [.agg [.int .i64 cx, .int .i64 cy, .int .i64 sd, .int .i64 w, .int .i64 h, .ro (.int .i64) pb, .ro (.int .i64) po], .agg [.int .i64 fl, .int .i64 ke, .int .i64 sw, .int .i64 be, .int .i64 we], .agg [.int .i64 x, .int .i64 y], .agg [.int .i64 u, .int .i64 v]] => k (icT (pasB cx cy sd w h pb po fl ke sw be we x y u v) cx cy sd w h (chgL (fun i => toB cx cy sd w x y u v i) (fun i => wornV i we) pb) po)
  | _ => none
theorem ipassTS_ok : FspOk Tryz.prog 72 ipassTS := fsp_sim ipassS_ok (by intro α args k; unfold ipassTS; split <;> rfl) fun args out hq => by
  unfold ipassTS at hq
  split at hq
  · rename_i cx cy sd w h pb po fl ke sw be we x y u v
    cases hq
    obtain ⟨v1, v2, e1, e2, e3⟩ := ic_tot (pasB cx cy sd w h pb po fl ke sw be we x y u v) cx cy sd w h (chgL (fun i => toB cx cy sd w x y u v i) (fun i => wornV i we) pb) po
    refine ⟨v1, v2, e1, ?_, e3⟩
    rw [← e2]
    rfl
  · cases hq
noncomputable def isweepTS : Fsp := fun _ args k => match args with
  | [.agg [.int .i64 cx, .int .i64 cy, .int .i64 sd, .int .i64 w, .int .i64 h, .ro (.int .i64) pb, .ro (.int .i64) po], .agg [.int .i64 x, .int .i64 y], .agg [.int .i64 u, .int .i64 v], .int .i64 b] => k (icT (twB cx cy sd w h pb po x y u v && grnB b) cx cy sd w h pb (chgL (fun i => toB cx cy sd w x y u v i) (fun i => moreV i b) po))
  | _ => none
theorem isweepTS_ok : FspOk Tryz.prog 73 isweepTS := fsp_sim isweepS_ok (by intro α args k; unfold isweepTS; split <;> rfl) fun args out hq => by
  unfold isweepTS at hq
  split at hq
  · rename_i cx cy sd w h pb po x y u v b
    cases hq
    obtain ⟨v1, v2, e1, e2, e3⟩ := ic_tot (twB cx cy sd w h pb po x y u v && grnB b) cx cy sd w h pb (chgL (fun i => toB cx cy sd w x y u v i) (fun i => moreV i b) po)
    refine ⟨v1, v2, e1, ?_, e3⟩
    rw [← e2]
    rfl
  · cases hq
noncomputable def ifadeTS : Fsp := fun _ args k => match args with
  | [.agg [.int .i64 cx, .int .i64 cy, .int .i64 sd, .int .i64 w, .int .i64 h, .ro (.int .i64) pb, .ro (.int .i64) po], .int .i64 b] => k (icT (iceB cx cy sd w h pb po && grnB b) cx cy sd w h pb (chgL (fun _ => true) (fun i => wornV i b) po))
  | _ => none
noncomputable def isprayTS : Fsp := fun _ args k => match args with
  | [.agg [.int .i64 cx, .int .i64 cy, .int .i64 sd, .int .i64 w, .int .i64 h, .ro (.int .i64) pb, .ro (.int .i64) po], .agg [.int .i64 x, .int .i64 y], .agg [.int .i64 u, .int .i64 v], .int .i64 b, .int .i64 tn] => k (icT (bxvB cx cy sd w h pb po x y u v && (grnB b && (decide (0 ≤ tn) && decide (tn ≤ 1)))) cx cy sd w h (chgL (fun i => inBx cx cy sd w x y u v i && sprB w tn i) (fun i => moreV i b) pb) po)
  | _ => none
noncomputable def imeanTS : Fsp := fun _ args k => match args with
  | [.agg [.int .i64 cx, .int .i64 cy, .int .i64 sd, .int .i64 w, .int .i64 h, .ro (.int .i64) pb, .ro (.int .i64) po], .agg [.int .i64 x, .int .i64 y], .agg [.int .i64 u, .int .i64 v]] => k (i3T (bxvB cx cy sd w h pb po x y u v) (meaS (fun i => inBx cx cy sd w x y u v i) pb (cels w h)) (meaN (fun i => inBx cx cy sd w x y u v i) (cels w h)))
  | _ => none
noncomputable def iscrapeTS : Fsp := fun _ args k => match args with
  | [.agg [.int .i64 cx, .int .i64 cy, .int .i64 sd, .int .i64 w, .int .i64 h, .ro (.int .i64) pb, .ro (.int .i64) po], .agg [.int .i64 x, .int .i64 y], .agg [.int .i64 u, .int .i64 v], .int .i64 b] => k (icT (bxvB cx cy sd w h pb po x y u v && grnB b) cx cy sd w h (chgL (fun i => inBx cx cy sd w x y u v i && true) (fun i => capV i b) pb) (chgL (fun i => inBx cx cy sd w x y u v i && true) (fun _ => 0) po))
  | _ => none
--FS fsI12 | fsI9 | ipassT=besom/ice.Pass;isweepT=besom/ice.Sweep;ifadeT=besom/ice.Fade;isprayT=besom/ice.Spray;imeanT=besom/ice.Mean;iscrapeT=besom/ice.Scrape
noncomputable def fsI12 : FuncId → Option Fsp := fun g =>
  if g = 72 then some ipassTS else
  if g = 73 then some isweepTS else
  fsI9 g
theorem fsI12_ok : FsOk fsI12 :=
  fs_cons ipassTS_ok <|
  fs_cons isweepTS_ok <|
  fsI9_ok
--END
end Go.Proofs.YtgpljldfbhkdlaaGreat

/- The reference's contracts without cases. -/
namespace Go.Proofs.YtgpljldfbhkdlaaGreat
open Go.RowKit

noncomputable def rfadeTS : Fsp := fun _ args k => match args with
  | [.agg [.int .i64 cx, .int .i64 cy, .int .i64 sd, .int .i64 w, .int .i64 h, .ro (.int .i64) pb, .ro (.int .i64) po], .int .i64 b] => k (icT (iceB cx cy sd w h pb po && grnB b) cx cy sd w h pb (chgL (fun _ => true) (fun i => wornV i b) po))
  | _ => none
theorem rfadeTS_ok : FspOk Tryz.prog 74 rfadeTS := fsp_sim rfadeS_ok (by intro α args k; unfold rfadeTS; split <;> rfl) fun args out hq => by
  unfold rfadeTS at hq
  split at hq
  · rename_i cx cy sd w h pb po b
    cases hq
    obtain ⟨v1, v2, e1, e2, e3⟩ := ic_tot (iceB cx cy sd w h pb po && grnB b) cx cy sd w h pb (chgL (fun _ => true) (fun i => wornV i b) po)
    refine ⟨v1, v2, e1, ?_, e3⟩
    rw [← e2]
    rfl
  · cases hq
noncomputable def rsprayTS : Fsp := fun _ args k => match args with
  | [.agg [.int .i64 cx, .int .i64 cy, .int .i64 sd, .int .i64 w, .int .i64 h, .ro (.int .i64) pb, .ro (.int .i64) po], .agg [.int .i64 x, .int .i64 y], .agg [.int .i64 u, .int .i64 v], .int .i64 b, .int .i64 tn] => k (icT (bxvB cx cy sd w h pb po x y u v && (grnB b && (decide (0 ≤ tn) && decide (tn ≤ 1)))) cx cy sd w h (chgL (fun i => inBx cx cy sd w x y u v i && sprB w tn i) (fun i => moreV i b) pb) po)
  | _ => none
noncomputable def rmeanTS : Fsp := fun _ args k => match args with
  | [.agg [.int .i64 cx, .int .i64 cy, .int .i64 sd, .int .i64 w, .int .i64 h, .ro (.int .i64) pb, .ro (.int .i64) po], .agg [.int .i64 x, .int .i64 y], .agg [.int .i64 u, .int .i64 v]] => k (i3T (bxvB cx cy sd w h pb po x y u v) (meaS (fun i => inBx cx cy sd w x y u v i) pb (cels w h)) (meaN (fun i => inBx cx cy sd w x y u v i) (cels w h)))
  | _ => none
noncomputable def rscrapeTS : Fsp := fun _ args k => match args with
  | [.agg [.int .i64 cx, .int .i64 cy, .int .i64 sd, .int .i64 w, .int .i64 h, .ro (.int .i64) pb, .ro (.int .i64) po], .agg [.int .i64 x, .int .i64 y], .agg [.int .i64 u, .int .i64 v], .int .i64 b] => k (icT (bxvB cx cy sd w h pb po x y u v && grnB b) cx cy sd w h (chgL (fun i => inBx cx cy sd w x y u v i && true) (fun i => capV i b) pb) (chgL (fun i => inBx cx cy sd w x y u v i && true) (fun _ => 0) po))
  | _ => none
end Go.Proofs.YtgpljldfbhkdlaaGreat

/- The reference: which way something turns (layer 1); cells that a way touches (layer 3). -/
namespace Go.Proofs.YtgpljldfbhkdlaaGreat
open Go.RowKit

--AT fnR1 spL twY
--TEXT rturn | twY fnR1 spL | 8 | besom/besomref01.Turn | (x y u v : Int) | $S{x y}, $S{u v}
--KEY 2131e37420
set_option maxRecDepth 100000 in
theorem rturn_text (N n0 : Nat) (α : Type) (x y u v : Int) (k : AOut → Option α) : evFn real tab ((twY fnR1 spL).env real tab N (n0 + 8)) N Tryz.f198 α [.agg [.int .i64 x, .int .i64 y], .agg [.int .i64 u, .int .i64 v]] k =
  bif okB x then
    bif okB u then
      bif !okB y then k (AOut.ret (AVal.tup [AVal.int IntKind.i64 0, AVal.int IntKind.i64 2]))
      else
        bif !okB v then k (AOut.ret (AVal.tup [AVal.int IntKind.i64 0, AVal.int IntKind.i64 2]))
        else
          bif i7 x && i7 v then
            bif i7 (IntKind.i64.wrap (0 - y)) && i7 u then
              bif isD (dg (ab x * ab v)) && isD (dg (ab (IntKind.i64.wrap (0 - y)) * ab u)) then
                bif
                    (↑(dg
                              (sumV (xorB (ngB x) (ngB v)) (xorB (ngB (IntKind.i64.wrap (0 - y))) (ngB u))
                                (vl (dg (ab x * ab v))) (vl (dg (ab (IntKind.i64.wrap (0 - y)) * ab u))))).length :
                        Int) ==
                      0 then
                  k (AOut.ret (AVal.tup [AVal.int IntKind.i64 0, AVal.int IntKind.i64 0]))
                else
                  bif
                      sumB (xorB (ngB x) (ngB v)) (xorB (ngB (IntKind.i64.wrap (0 - y))) (ngB u)) (vl (dg (ab x * ab v)))
                        (vl (dg (ab (IntKind.i64.wrap (0 - y)) * ab u))) then
                    k (AOut.ret (AVal.tup [AVal.int IntKind.i64 (-1), AVal.int IntKind.i64 0]))
                  else k (AOut.ret (AVal.tup [AVal.int IntKind.i64 1, AVal.int IntKind.i64 0]))
              else none
            else none
          else none
    else
      bif !okB y then k (AOut.ret (AVal.tup [AVal.int IntKind.i64 0, AVal.int IntKind.i64 2]))
      else k (AOut.ret (AVal.tup [AVal.int IntKind.i64 0, AVal.int IntKind.i64 2]))
  else
    bif okB u then k (AOut.ret (AVal.tup [AVal.int IntKind.i64 0, AVal.int IntKind.i64 2]))
    else k (AOut.ret (AVal.tup [AVal.int IntKind.i64 0, AVal.int IntKind.i64 2])) := by kernel_rfl
--END
--FIN rturn | besom/besomref01.Turn | (x y u v : Int) | $S{x y}, $S{u v} | i2 (trnV x y u v) (fourE x y u v)
theorem rturn_fin (x y u v : Int) (hs : ∀ qSm ∈ ([.agg [.int .i64 x, .int .i64 y], .agg [.int .i64 u, .int .i64 v]] : List AVal), Sm qSm) : ∃ N n, ∀ α (k : AOut → Option α), evFn real tab ((twY fnR1 spL).env real tab N n) N Tryz.f198 α [.agg [.int .i64 x, .int .i64 y], .agg [.int .i64 u, .int .i64 v]] k = k (i2 (trnV x y u v) (fourE x y u v)) := by
  refine ⟨8, 8, fun α k => (rturn_text 8 0 α x y u v k).trans ?_⟩
  unfold trnV fourE four
  cases hx : okB x
  · cases okB y <;> cases okB u <;> cases okB v <;> rfl
  cases hu : okB u
  · cases okB y <;> cases okB v <;> rfl
  cases hy : okB y
  · cases okB v <;> rfl
  cases hv : okB v
  · rfl
  have x7 := i7_ok hx; have u7 := i7_ok hu; have v7 := i7_ok hv
  rw [ok_iff] at hx hu hy hv
  have ny : IntKind.i64.wrap (0 - y) = -y := by rw [i64_in (0 - y) (by omega)]; omega
  have y7 : i7 (-y) = true := by rw [i7_iff]; omega
  have ax : 0 ≤ ab x ∧ ab x ≤ 70368744177664 := by unfold ab; split <;> omega
  have au : 0 ≤ ab u ∧ ab u ≤ 70368744177664 := by unfold ab; split <;> omega
  have ay : 0 ≤ ab (-y) ∧ ab (-y) ≤ 70368744177664 := by unfold ab; split <;> omega
  have av : 0 ≤ ab v ∧ ab v ≤ 70368744177664 := by unfold ab; split <;> omega
  have m1 := mul_in ax av
  have m2 := mul_in ay au
  obtain ⟨s1, s2, s3⟩ := sum_sg (m := xorB (ngB x) (ngB v)) (n := xorB (ngB (-y)) (ngB u)) m1.1 m2.1
  rw [sg_mulD, sg_mulD] at s1
  rw [ny, x7, u7, v7, y7, isD_dg (n := ab x * ab v) ⟨m1.1, by omega⟩, isD_dg (n := ab (-y) * ab u) ⟨m2.1, by omega⟩, vl_dg _ m1.1, vl_dg _ m2.1]
  simp only [Bool.and_self, cond_true, Bool.not_true, cond_false]
  have hD : x * v - y * u = x * v + -y * u := by rw [Int.neg_mul]; omega
  rw [hD, ← s1]
  generalize sumV (xorB (ngB x) (ngB v)) (xorB (ngB (-y)) (ngB u)) (ab x * ab v) (ab (-y) * ab u) = V at *
  generalize sumB (xorB (ngB x) (ngB v)) (xorB (ngB (-y)) (ngB u)) (ab x * ab v) (ab (-y) * ab u) = B at *
  by_cases hV : V = 0
  · subst hV
    cases B <;> rfl
  · have : ((dg V).length : Int) ≠ 0 := fun e => hV ((dg_nil s2).1 (List.length_eq_zero_iff.1 (by omega)))
    rw [show (((dg V).length : Int) == 0) = false by simpa using this]
    cases B
    · have : sgn3 (sg false V) = 1 := by
        show cmp3 V 0 = 1
        unfold cmp3; rw [if_neg (by omega), if_pos (by omega)]
      rw [this]; rfl
    · have : sgn3 (sg true V) = -1 := by
        show cmp3 (-V) 0 = -1
        unfold cmp3; rw [if_pos (by omega)]
      rw [this]; rfl
--CON rturn
noncomputable def rturnS : Fsp := fun _ args k => match args with
  | [.agg [.int .i64 x, .int .i64 y], .agg [.int .i64 u, .int .i64 v]] => k (i2 (trnV x y u v) (fourE x y u v))
  | _ => none
theorem rturnS_ok : FspOk Tryz.prog 198 rturnS := tower_Y fnR1_ok spL_ok ⟨Tryz.func198, fun _ _ => by kernel_rfl⟩ (by intro α args k; unfold rturnS; split <;> rfl) fun args out hSm hEq => by
  unfold rturnS at hEq
  split at hEq
  · rename_i x y u v
    obtain ⟨N, n, e⟩ := rturn_fin x y u v hSm
    exact ⟨N, n, (e AOut some).trans hEq⟩
  · cases hEq
--END
--FS fnR8 | fnR1 | rturn
noncomputable def fnR8 : FuncId → Option Fsp := fun g =>
  if g = 198 then some rturnS else
  fnR1 g
theorem fnR8_ok : FsOk fnR8 :=
  fs_cons rturnS_ok <|
  fnR1_ok
--END
--AT fnR8 spL twY
section
variable {α : Type}
def rtF (T : Nat → Int) (n m : Nat) (z : Int × Int × Int × Unit) : Option (LRes (Int × Int × Int × Unit) α) :=
  bif decide (z.2.2.1 < 4) then
    if 0 ≤ z.2.2.1 ∧ z.2.2.1 < (n : Int) then
      if 0 ≤ z.2.2.1 ∧ z.2.2.1 < (m : Int) then
        bif decide (T z.2.2.1.toNat > 0) then
          bif decide (T z.2.2.1.toNat < 0) then some (LRes.cont (IntKind.i64.wrap (z.1 + 1), IntKind.i64.wrap (z.2.1 + 1), IntKind.i64.wrap (z.2.2.1 + 1), ()))
          else some (LRes.cont (IntKind.i64.wrap (z.1 + 1), z.2.1, IntKind.i64.wrap (z.2.2.1 + 1), ()))
        else
          bif decide (T z.2.2.1.toNat < 0) then some (LRes.cont (z.1, IntKind.i64.wrap (z.2.1 + 1), IntKind.i64.wrap (z.2.2.1 + 1), ()))
          else some (LRes.cont (z.1, z.2.1, IntKind.i64.wrap (z.2.2.1 + 1), ()))
      else none
    else none
  else some (LRes.brk 0 (z.1, z.2.1, z.2.2.1, ()))
def rtT (N : Nat) (x y u v lx ly hx hy : Int) (k : AOut → Option α) : Option α :=
  bif decide (mx x u < lx) then k (b1 false) else bif decide (mn x u > hx) then k (b1 false) else bif decide (mx y v < ly) then k (b1 false) else bif decide (mn y v > hy) then k (b1 false)
  else afterL (iterL N (rtF (fun i => trnV (IntKind.i64.wrap (u - x)) (IntKind.i64.wrap (v - y)) (IntKind.i64.wrap (cX lx hx i - x)) (IntKind.i64.wrap (cY ly hy i - y))) ([lx, hx, lx, hx] : List Int).length ([ly, ly, hy, hy] : List Int).length) (0, 0, 0, ())) fun id z => if id = 0 then (bif decide (z.1 < 4) then k (b1 (decide (z.2.1 < 4))) else k (b1 false)) else none
end
set_option maxRecDepth 100000 in
theorem rtouches_text (N n0 : Nat) (α : Type) (cx cy sd w h : Int) (pb po : List Int) (x y u v c : Int) (k : AOut → Option α) : evFn real tab ((twY fnR8 spL).env real tab N (n0 + 8)) N Tryz.f176 α [.agg [.int .i64 cx, .int .i64 cy, .int .i64 sd, .int .i64 w, .int .i64 h, .ro (.int .i64) pb, .ro (.int .i64) po], .agg [.int .i64 x, .int .i64 y], .agg [.int .i64 u, .int .i64 v], .int .i64 c] k =
    if w = 0 then none else if w = 0 then none else rtT N x y u v (lwX cx sd w c) (lwY cy sd w c) (hgX cx sd w c) (hgY cy sd w c) k := by kernel_rfl
theorem rt_loop {α : Type} (T : Nat → Int) (hT : ∀ i : Nat, i < 4 → T i = -1 ∨ T i = 0 ∨ T i = 1) (K : Nat → Int × Int × Int × Unit → Option α) {N : Nat} (hN : 4 < N) :
    afterL (iterL N (rtF T 4 4) (0, 0, 0, ())) K = K 0 (cnT T 1 4, cnT T (-1) 4, 4, ()) := by
  refine count_loop (f := rtF T 4 4) (fun i : Nat => (cnT T 1 i, cnT T (-1) i, (i : Int), ())) 4 (fun i hi => ?_) ?_ hN
  · have a := cnT_in T 1 i
    have b := cnT_in T (-1) i
    unfold rtF
    simp only
    rw [decide_eq_true (show (i : Int) < 4 by omega), cond_true, if_pos ⟨by omega, by omega⟩, if_pos ⟨by omega, by omega⟩, Int.toNat_natCast, i64_in ((i : Int) + 1) (by omega), i64_in (cnT T 1 i + 1) (by omega), i64_in (cnT T (-1) i + 1) (by omega)]
    simp only [cnT]
    rcases hT i hi with h | h | h <;> rw [h] <;> simp
  · rfl
--FIN rtouches | besom/besomref03.Touches | $ICB (x y u v c : Int) | $ICE, $S{x y}, $S{u v}, $I{c} | b1 (toB cx cy sd w x y u v c) | iceB $ICV && (plcB x y && plcB u v) && (decide (0 ≤ c) && decide (c < w * h))
theorem rtouches_fin (cx cy sd w h : Int) (pb po : List Int) (x y u v c : Int) (hs : ∀ qSm ∈ ([.agg [.int .i64 cx, .int .i64 cy, .int .i64 sd, .int .i64 w, .int .i64 h, .ro (.int .i64) pb, .ro (.int .i64) po], .agg [.int .i64 x, .int .i64 y], .agg [.int .i64 u, .int .i64 v], .int .i64 c] : List AVal), Sm qSm) (hCo : (iceB cx cy sd w h pb po && (plcB x y && plcB u v) && (decide (0 ≤ c) && decide (c < w * h))) = true) : ∃ N n, ∀ α (k : AOut → Option α), evFn real tab ((twY fnR8 spL).env real tab N n) N Tryz.f176 α [.agg [.int .i64 cx, .int .i64 cy, .int .i64 sd, .int .i64 w, .int .i64 h, .ro (.int .i64) pb, .ro (.int .i64) po], .agg [.int .i64 x, .int .i64 y], .agg [.int .i64 u, .int .i64 v], .int .i64 c] k = k (b1 (toB cx cy sd w x y u v c)) := by
  simp only [Bool.and_eq_true, decide_eq_true_eq, plc_iff] at hCo
  obtain ⟨⟨hI, hp, hq⟩, c0, c1⟩ := hCo
  have g := ice_is _ _ _ _ _ _ _ hI
  have gc := g.fc; have gs := g.fs
  refine ⟨8, 8, fun α k => (rtouches_text 8 0 α cx cy sd w h pb po x y u v c k).trans ?_⟩
  obtain ⟨e1, e2, e3, e4⟩ := lw_eq g.fc g.fs g.fw g.fh c0 c1
  obtain ⟨_, _, b1', b2'⟩ := cell_at g.fc g.fs g.fw g.fh c0 c1
  have hw := g.fw
  rw [if_neg (by omega), if_neg (by omega), e1, e2, e3, e4]
  unfold toB
  have l1 : -1677721600000 ≤ cx + c % w * sd ∧ cx + c % w * sd ≤ 1677721600000 := by omega
  have l2 : -1677721600000 ≤ cy + c / w * sd ∧ cy + c / w * sd ≤ 1677721600000 := by omega
  clear e1 e2 e3 e4 b1' b2'
  generalize cx + c % w * sd = lx at *
  generalize cy + c / w * sd = ly at *
  have hT : ∀ i : Nat, i < 4 → trnV (IntKind.i64.wrap (u - x)) (IntKind.i64.wrap (v - y)) (IntKind.i64.wrap (cX lx (lx + sd) i - x)) (IntKind.i64.wrap (cY ly (ly + sd) i - y)) = sid x y u v lx ly (lx + sd) (ly + sd) i := fun i hi => by
    have q1 := (cXY_in (B := 1684275200000) (show -1684275200000 ≤ lx ∧ lx ≤ 1684275200000 by omega) (show -1684275200000 ≤ lx + sd ∧ lx + sd ≤ 1684275200000 by omega) hi).1
    have q2 := (cXY_in (B := 1684275200000) (show -1684275200000 ≤ ly ∧ ly ≤ 1684275200000 by omega) (show -1684275200000 ≤ ly + sd ∧ ly + sd ≤ 1684275200000 by omega) hi).2
    rw [i64_in (u - x) (by omega), i64_in (v - y) (by omega), i64_in (cX lx (lx + sd) i - x) (by omega), i64_in (cY ly (ly + sd) i - y) (by omega), trn_ok (B := 1690828800000) (by omega) (by omega) (by omega) (by omega) (by omega)]
    rfl
  unfold rtT
  show (bif decide (mx x u < lx) then k (b1 false) else bif decide (mn x u > lx + sd) then k (b1 false) else bif decide (mx y v < ly) then k (b1 false) else bif decide (mn y v > ly + sd) then k (b1 false) else afterL (iterL 8 (rtF _ 4 4) (0, 0, 0, ())) _) = _
  rw [rt_loop _ (fun i hi => by rw [hT i hi]; exact sgn3_in _) _ (by omega), cnT_congr (-1) 4 hT, cnT_congr 1 4 hT]
  unfold touB
  have f : ∀ a b : Int, decide (a < b) = !decide (b ≤ a) := fun a b => by
    by_cases h : b ≤ a
    · rw [decide_eq_true h, decide_eq_false (by omega)]; rfl
    · rw [decide_eq_false h, decide_eq_true (by omega)]; rfl
  rw [f (mx x u), gt_le, f (mx y v), gt_le]
  simp only [if_pos]
  cases decide (lx ≤ mx x u) <;> cases decide (mn x u ≤ lx + sd) <;> cases decide (ly ≤ mx y v) <;> cases decide (mn y v ≤ ly + sd) <;> cases decide (cnT (sid x y u v lx ly (lx + sd) (ly + sd)) (-1) 4 < 4) <;> cases decide (cnT (sid x y u v lx ly (lx + sd) (ly + sd)) 1 4 < 4) <;> rfl
--CON rtouches
noncomputable def rtouchesS : Fsp := fun _ args k => match args with
  | [.agg [.int .i64 cx, .int .i64 cy, .int .i64 sd, .int .i64 w, .int .i64 h, .ro (.int .i64) pb, .ro (.int .i64) po], .agg [.int .i64 x, .int .i64 y], .agg [.int .i64 u, .int .i64 v], .int .i64 c] => bif iceB cx cy sd w h pb po && (plcB x y && plcB u v) && (decide (0 ≤ c) && decide (c < w * h)) then (k (b1 (toB cx cy sd w x y u v c))) else none
  | _ => none
theorem rtouchesS_ok : FspOk Tryz.prog 176 rtouchesS := tower_Y fnR8_ok spL_ok ⟨Tryz.func176, fun _ _ => by kernel_rfl⟩ (by intro α args k; unfold rtouchesS; split <;> simp only [cond_bind, Option.bind_some, Option.bind_none]) fun args out hSm hEq => by
  unfold rtouchesS at hEq
  split at hEq
  · rename_i cx cy sd w h pb po x y u v c
    cases hc : iceB cx cy sd w h pb po && (plcB x y && plcB u v) && (decide (0 ≤ c) && decide (c < w * h))
    · rw [hc] at hEq; cases hEq
    · rw [hc] at hEq
      obtain ⟨N, n, e⟩ := rtouches_fin cx cy sd w h pb po x y u v c hSm hc
      exact ⟨N, n, (e AOut some).trans hEq⟩
  · cases hEq
--END
--FS fnR9 | fnR8 | rtouches
noncomputable def fnR9 : FuncId → Option Fsp := fun g =>
  if g = 176 then some rtouchesS else
  fnR8 g
theorem fnR9_ok : FsOk fnR9 :=
  fs_cons rtouchesS_ok <|
  fnR8_ok
--END
end Go.Proofs.YtgpljldfbhkdlaaGreat

/- Ways and cells in plain numbers: a place of a way that is in a cell; the way back. -/
namespace Go.Proofs.YtgpljldfbhkdlaaGreat
open Go.RowKit

theorem cnT_full {T : Nat → Int} {v : Int} : ∀ (n : Nat), cnT T v n = n → ∀ i, i < n → T i = v
  | 0, _, i, hi => by omega
  | n + 1, h, i, hi => by
    have := cnT_in T v n
    simp only [cnT] at h
    by_cases hn : T n = v
    · rw [if_pos hn] at h
      rcases Nat.lt_or_ge i n with h' | h'
      · exact cnT_full n (by omega) i h'
      · have : i = n := by omega
        subst this; exact hn
    · rw [if_neg hn] at h; omega
theorem cnT_lt {T : Nat → Int} {v : Int} {i : Nat} (hi : i < 4) (h : T i ≠ v) : cnT T v 4 < 4 := by
  have := cnT_in T v 4
  by_cases h4 : cnT T v 4 = 4
  · exact absurd (cnT_full 4 h4 i hi) h
  · omega
theorem sgn3_neg {a : Int} : sgn3 a = -1 ↔ a < 0 := by
  unfold sgn3 cmp3
  split
  · simp; omega
  · split <;> simp <;> omega
theorem sgn3_pos {a : Int} : sgn3 a = 1 ↔ 0 < a := by
  unfold sgn3 cmp3
  split
  · simp; omega
  · split <;> simp <;> omega
/-- A place of a way, in a cell: the way touches it. -/
theorem tou_of {x y u v lx ly hx hy s t : Int} (h0 : (u - x) * (t - y) - (v - y) * (s - x) = 0) (hs : mn x u ≤ s ∧ s ≤ mx x u) (ht : mn y v ≤ t ∧ t ≤ mx y v) (hX : lx ≤ s ∧ s ≤ hx) (hY : ly ≤ t ∧ t ≤ hy) : touB x y u v lx ly hx hy = true := by
  simp only [touB, Bool.and_eq_true, decide_eq_true_eq]
  refine ⟨⟨⟨by omega, by omega⟩, by omega, by omega⟩, ?_, ?_⟩
  · -- some corner is not to the right
    have key : ∃ i, i < 4 ∧ 0 ≤ (u - x) * (cY ly hy i - y) - (v - y) * (cX lx hx i - x) := by
      have yy : ∃ Y, (Y = ly ∨ Y = hy) ∧ (u - x) * (t - y) ≤ (u - x) * (Y - y) := by
        rcases Int.le_total 0 (u - x) with h | h
        · exact ⟨hy, .inr rfl, Int.mul_le_mul_of_nonneg_left (by omega) h⟩
        · exact ⟨ly, .inl rfl, Int.mul_le_mul_of_nonpos_left h (by omega)⟩
      have xx : ∃ X, (X = lx ∨ X = hx) ∧ (v - y) * (X - x) ≤ (v - y) * (s - x) := by
        rcases Int.le_total 0 (v - y) with h | h
        · exact ⟨lx, .inl rfl, Int.mul_le_mul_of_nonneg_left (by omega) h⟩
        · exact ⟨hx, .inr rfl, Int.mul_le_mul_of_nonpos_left h (by omega)⟩
      obtain ⟨Y, hY', e1⟩ := yy
      obtain ⟨X, hX', e2⟩ := xx
      rcases hY' with rfl | rfl <;> rcases hX' with rfl | rfl
      · exact ⟨0, by omega, by simp only [cX, cY, List.getD_cons_zero]; omega⟩
      · exact ⟨1, by omega, by simp only [cX, cY, List.getD_cons_zero, List.getD_cons_succ]; omega⟩
      · exact ⟨2, by omega, by simp only [cX, cY, List.getD_cons_zero, List.getD_cons_succ]; omega⟩
      · exact ⟨3, by omega, by simp only [cX, cY, List.getD_cons_zero, List.getD_cons_succ]; omega⟩
    obtain ⟨i, hi, hp⟩ := key
    exact cnT_lt hi fun e => by have := sgn3_neg.1 e; omega
  · have key : ∃ i, i < 4 ∧ (u - x) * (cY ly hy i - y) - (v - y) * (cX lx hx i - x) ≤ 0 := by
      have yy : ∃ Y, (Y = ly ∨ Y = hy) ∧ (u - x) * (Y - y) ≤ (u - x) * (t - y) := by
        rcases Int.le_total 0 (u - x) with h | h
        · exact ⟨ly, .inl rfl, Int.mul_le_mul_of_nonneg_left (by omega) h⟩
        · exact ⟨hy, .inr rfl, Int.mul_le_mul_of_nonpos_left h (by omega)⟩
      have xx : ∃ X, (X = lx ∨ X = hx) ∧ (v - y) * (s - x) ≤ (v - y) * (X - x) := by
        rcases Int.le_total 0 (v - y) with h | h
        · exact ⟨hx, .inr rfl, Int.mul_le_mul_of_nonneg_left (by omega) h⟩
        · exact ⟨lx, .inl rfl, Int.mul_le_mul_of_nonpos_left h (by omega)⟩
      obtain ⟨Y, hY', e1⟩ := yy
      obtain ⟨X, hX', e2⟩ := xx
      rcases hY' with rfl | rfl <;> rcases hX' with rfl | rfl
      · exact ⟨0, by omega, by simp only [cX, cY, List.getD_cons_zero]; omega⟩
      · exact ⟨1, by omega, by simp only [cX, cY, List.getD_cons_zero, List.getD_cons_succ]; omega⟩
      · exact ⟨2, by omega, by simp only [cX, cY, List.getD_cons_zero, List.getD_cons_succ]; omega⟩
      · exact ⟨3, by omega, by simp only [cX, cY, List.getD_cons_zero, List.getD_cons_succ]; omega⟩
    obtain ⟨i, hi, hp⟩ := key
    exact cnT_lt hi fun e => by have := sgn3_pos.1 e; omega
theorem mx_comm (a b : Int) : mx a b = mx b a := by unfold mx; split <;> split <;> omega
theorem mn_comm (a b : Int) : mn a b = mn b a := by unfold mn; split <;> split <;> omega
theorem cnT_flip {S T : Nat → Int} (v : Int) : ∀ n, (∀ i, i < n → (S i = v ↔ T i = -v)) → cnT S v n = cnT T (-v) n
  | 0, _ => rfl
  | n + 1, h => by
    simp only [cnT, cnT_flip v n fun i hi => h i (by omega)]
    have := h n (by omega)
    by_cases hs : S n = v
    · rw [if_pos hs, if_pos (this.1 hs)]
    · rw [if_neg hs, if_neg fun e => hs (this.2 e)]
theorem cross_back (x y u v X Y : Int) : (x - u) * (Y - v) - (y - v) * (X - u) = -((u - x) * (Y - y) - (v - y) * (X - x)) := by
  have e1 : (x - u) * (Y - v) = x * Y - x * v - u * Y + u * v := by rw [Int.sub_mul, Int.mul_sub, Int.mul_sub]; omega
  have e2 : (y - v) * (X - u) = y * X - y * u - v * X + v * u := by rw [Int.sub_mul, Int.mul_sub, Int.mul_sub]; omega
  have e3 : (u - x) * (Y - y) = u * Y - u * y - x * Y + x * y := by rw [Int.sub_mul, Int.mul_sub, Int.mul_sub]; omega
  have e4 : (v - y) * (X - x) = v * X - v * x - y * X + y * x := by rw [Int.sub_mul, Int.mul_sub, Int.mul_sub]; omega
  rw [e1, e2, e3, e4, Int.mul_comm v u, Int.mul_comm y u, Int.mul_comm v x, Int.mul_comm y x]
  omega
theorem tou_back (x y u v lx ly hx hy : Int) : touB u v x y lx ly hx hy = touB x y u v lx ly hx hy := by
  have flip : ∀ w : Int, w = -1 ∨ w = 1 → cnT (sid u v x y lx ly hx hy) w 4 = cnT (sid x y u v lx ly hx hy) (-w) 4 := fun w hw => cnT_flip w 4 fun i _ => by
    unfold sid
    rw [cross_back]
    generalize (u - x) * (cY ly hy i - y) - (v - y) * (cX lx hx i - x) = q
    rcases hw with rfl | rfl
    · rw [sgn3_neg, show -(-1 : Int) = 1 from rfl, sgn3_pos]; omega
    · rw [sgn3_pos, sgn3_neg]; omega
  unfold touB
  rw [flip (-1) (.inl rfl), flip 1 (.inr rfl), mx_comm u x, mn_comm u x, mx_comm v y, mn_comm v y, show -(-1 : Int) = 1 from rfl]
  rw [Bool.and_comm (decide (cnT (sid x y u v lx ly hx hy) 1 4 < 4))]
/-- The cell of a place. -/
theorem cel_parts {cx cy sd w h x y : Int} (hsd : 1 ≤ sd) (hw : 1 ≤ w) (hi : inCel cx cy sd w h x y = true) : celC cx cy sd w x y % w = (x - cx) / sd ∧ celC cx cy sd w x y / w = (y - cy) / sd := by
  obtain ⟨_, _, ⟨a0, a1⟩, b0, b1⟩ := cel_in hsd hw hi
  unfold celC
  generalize (x - cx) / sd = p at *
  generalize (y - cy) / sd = q at *
  constructor
  · rw [Int.add_comm, Int.add_mul_emod_self_right, Int.emod_eq_of_lt a0 a1]
  · rw [Int.add_comm, Int.add_mul_ediv_right _ _ (by omega), Int.ediv_eq_zero_of_lt a0 a1]; omega
theorem to_of_place {cx cy sd w h x y u v s t : Int} (hsd : 1 ≤ sd) (hw : 1 ≤ w) (h0 : (u - x) * (t - y) - (v - y) * (s - x) = 0) (hs : mn x u ≤ s ∧ s ≤ mx x u) (ht : mn y v ≤ t ∧ t ≤ mx y v) (hi : inCel cx cy sd w h s t = true) : toB cx cy sd w x y u v (celC cx cy sd w s t) = true := by
  obtain ⟨e1, e2⟩ := cel_parts hsd hw hi
  unfold toB
  rw [e1, e2]
  have f1 := Int.emod_add_mul_ediv (s - cx) sd
  have f2 := Int.emod_nonneg (s - cx) (show sd ≠ 0 by omega)
  have f3 := Int.emod_lt_of_pos (s - cx) (show 0 < sd by omega)
  have g1 := Int.emod_add_mul_ediv (t - cy) sd
  have g2 := Int.emod_nonneg (t - cy) (show sd ≠ 0 by omega)
  have g3 := Int.emod_lt_of_pos (t - cy) (show 0 < sd by omega)
  rw [Int.mul_comm] at f1 g1
  exact tou_of h0 hs ht ⟨by omega, by omega⟩ ⟨by omega, by omega⟩

/-! Lists of numbers for which something holds. -/
theorem whL_at (hit : Nat → Bool) (n : Nat) {i : Nat} (hi : i < (whL hit n).length) : ∃ m : Nat, (whL hit n).getD i 0 = m ∧ m < n ∧ hit m = true := by
  rw [List.getD_eq_getElem?_getD, List.getElem?_eq_getElem hi]
  have hm := List.getElem_mem hi
  obtain ⟨m, hm', e⟩ := List.mem_map.1 hm
  obtain ⟨h1, h2⟩ := List.mem_filter.1 hm'
  exact ⟨m, by rw [Option.getD_some]; exact e.symm, List.mem_range.1 h1, h2⟩
theorem whL_has {hit : Nat → Bool} {n m : Nat} (hm : m < n) (h : hit m = true) : ∃ i, i < (whL hit n).length ∧ (whL hit n).getD i 0 = (m : Int) := by
  have : (m : Int) ∈ whL hit n := List.mem_map.2 ⟨m, List.mem_filter.2 ⟨List.mem_range.2 hm, h⟩, rfl⟩
  obtain ⟨i, hi, e⟩ := List.mem_iff_getElem.1 this
  exact ⟨i, hi, by rw [List.getD_eq_getElem?_getD, List.getElem?_eq_getElem hi, Option.getD_some, e]⟩
theorem whL_rise (hit : Nat → Bool) (n : Nat) : (whL hit n).Pairwise (· < ·) := by
  unfold whL
  rw [List.pairwise_map]
  refine (List.Pairwise.filter _ List.pairwise_lt_range).imp ?_
  intro a b h; omega
theorem whL_next (hit : Nat → Bool) (n : Nat) {i : Nat} (h0 : 0 < i) (hi : i < (whL hit n).length) : (whL hit n).getD (i - 1) 0 < (whL hit n).getD i 0 := by
  have := List.pairwise_iff_getElem.1 (whL_rise hit n) (i - 1) i (by omega) hi (by omega)
  rw [List.getD_eq_getElem?_getD, List.getD_eq_getElem?_getD, List.getElem?_eq_getElem hi, List.getElem?_eq_getElem (by omega)]
  exact this
end Go.Proofs.YtgpljldfbhkdlaaGreat

/- The reference: touched cells, ice after stones and brooms. -/
namespace Go.Proofs.YtgpljldfbhkdlaaGreat
open Go.RowKit

--AT fnR9 spL twY
section
variable {α : Type}
def rtdF (dom hit : Int → Bool) (wh : Int) (z : List Int × Int × Unit) : Option (LRes (List Int × Int × Unit) α) :=
  bif decide (z.2.1 < wh) then
    bif dom z.2.1 then
      bif hit z.2.1 then if (z.1.length + [z.2.1].length) * 8 ≤ room then some (LRes.cont (z.1 ++ [z.2.1], IntKind.i64.wrap (z.2.1 + 1), ())) else none
      else some (LRes.cont (z.1, IntKind.i64.wrap (z.2.1 + 1), ()))
    else none
  else some (LRes.brk 0 (z.1, z.2.1, ()))
def rpF (L : List Int) (f : Int → Int) (z : St2) : Option (LRes St2 α) :=
  bif decide (z.2.2.1 < (L.length : Int)) then
    in2 z.2.2.1 L (in2 z.2.2.1 L (in2 (L.getD z.2.2.1.toNat 0) z.1 (in2 (L.getD z.2.2.1.toNat 0) z.1
      (some (LRes.cont (z.1.set (L.getD z.2.2.1.toNat 0).toNat (f (z.1.getD (L.getD z.2.2.1.toNat 0).toNat 0)), z.2.1, IntKind.i64.wrap (z.2.2.1 + 1), ()))))))
  else some (LRes.brk 0 (z.1, z.2.1, z.2.2.1, ()))
def rsF (L : List Int) (f : Int → Int) (z : St2) : Option (LRes St2 α) :=
  bif decide (z.2.2.1 < (L.length : Int)) then
    in2 z.2.2.1 L (in2 z.2.2.1 L (in2 (L.getD z.2.2.1.toNat 0) z.2.1 (in2 (L.getD z.2.2.1.toNat 0) z.2.1
      (some (LRes.cont (z.1, z.2.1.set (L.getD z.2.2.1.toNat 0).toNat (f (z.2.1.getD (L.getD z.2.2.1.toNat 0).toNat 0)), IntKind.i64.wrap (z.2.2.1 + 1), ()))))))
  else some (LRes.brk 0 (z.1, z.2.1, z.2.2.1, ()))
end
set_option maxRecDepth 100000 in
theorem rpass_text (N n0 : Nat) (α : Type) (cx cy sd w h : Int) (pb po : List Int) (fl ke sw be we : Int) (x y u v : Int) (k : AOut → Option α) : evFn real tab ((twY fnR9 spL).env real tab N (n0 + 8)) N Tryz.f76 α [.agg [.int .i64 cx, .int .i64 cy, .int .i64 sd, .int .i64 w, .int .i64 h, .ro (.int .i64) pb, .ro (.int .i64) po], .agg [.int .i64 fl, .int .i64 ke, .int .i64 sw, .int .i64 be, .int .i64 we], .agg [.int .i64 x, .int .i64 y], .agg [.int .i64 u, .int .i64 v]] k =
    bif iceB cx cy sd w h pb po then bif !graB fl ke sw be we then k icN else bif !plcB x y then k icN else bif !plcB u v then k icN
    else cop2 pb po (afterL (iterL N (rtdF (fun c => iceB cx cy sd w h ((List.nil (α := Int)) ++ pb) ((List.nil (α := Int)) ++ po) && (plcB x y && plcB u v) && (decide (0 ≤ c) && decide (c < w * h))) (toB cx cy sd w x y u v) (IntKind.i64.wrap (w * h))) ([], 0, ())) fun id y => if id = 0 then
      afterL (iterL N (rpF y.1 fun n => wornV n we) ((List.nil (α := Int)) ++ pb, (List.nil (α := Int)) ++ po, 0, ())) fun id z => if id = 0 then k (icO cx cy sd w h z.1 z.2.1) else none
      else none)
    else k icN := by kernel_rfl
set_option maxRecDepth 100000 in
theorem rsweep_text (N n0 : Nat) (α : Type) (cx cy sd w h : Int) (pb po : List Int) (x y u v b : Int) (k : AOut → Option α) : evFn real tab ((twY fnR9 spL).env real tab N (n0 + 8)) N Tryz.f77 α [.agg [.int .i64 cx, .int .i64 cy, .int .i64 sd, .int .i64 w, .int .i64 h, .ro (.int .i64) pb, .ro (.int .i64) po], .agg [.int .i64 x, .int .i64 y], .agg [.int .i64 u, .int .i64 v], .int .i64 b] k =
    bif iceB cx cy sd w h pb po then bif !plcB x y then k icN else bif !plcB u v then k icN
    else bif decide (0 ≤ b) then bif !decide (b ≤ 1000) then k icN
    else cop2 pb po (afterL (iterL N (rtdF (fun c => iceB cx cy sd w h ((List.nil (α := Int)) ++ pb) ((List.nil (α := Int)) ++ po) && (plcB x y && plcB u v) && (decide (0 ≤ c) && decide (c < w * h))) (toB cx cy sd w x y u v) (IntKind.i64.wrap (w * h))) ([], 0, ())) fun id y => if id = 0 then
      afterL (iterL N (rsF y.1 fun n => moreV n b) ((List.nil (α := Int)) ++ pb, (List.nil (α := Int)) ++ po, 0, ())) fun id z => if id = 0 then k (icO cx cy sd w h z.1 z.2.1) else none
      else none)
    else k icN else k icN := by kernel_rfl
theorem rtd_loop {α : Type} (dom hit : Int → Bool) {wh : Int} {n : Nat} (hn : (n : Int) = wh) (hn2 : n ≤ 65536) (hd : ∀ i : Nat, i < n → dom i = true) (K : Nat → List Int × Int × Unit → Option α) {N : Nat} (hN : n < N) :
    afterL (iterL N (rtdF dom hit wh) ([], 0, ())) K = K 0 (whL (fun i => hit i) n, (n : Int), ()) := by
  refine count_loop (f := rtdF dom hit wh) (fun i : Nat => (whL (fun i => hit i) i, (i : Int), ())) n (fun i hi => ?_) ?_ hN
  · have hl := whL_len (fun i => hit i) i
    unfold rtdF
    simp only
    rw [decide_eq_true (show (i : Int) < wh by omega), hd i hi, i64_in ((i : Int) + 1) (by omega), whL_succ]
    simp only [cond_true]
    cases hit i
    · simp only [cond_false, List.append_nil]; rfl
    · rw [cond_true, if_pos (by simp [room]; omega)]; rfl
  · unfold rtdF
    simp only
    rw [decide_eq_false (by omega)]
    rfl
/-- What is done with the cells of a list, one by one. -/
def forL (f : Int → Int) (l : List Int) (t : List Int) : List Int := l.foldl (fun t c => updL f c.toNat t) t
theorem forL_len (f : Int → Int) : ∀ (l t : List Int), (forL f l t).length = t.length
  | [], t => rfl
  | c :: l, t => by
    show (forL f l (updL f c.toNat t)).length = t.length
    rw [forL_len f l]; unfold updL; rw [List.length_set]
theorem forL_take (f : Int → Int) {l : List Int} {i : Nat} (hi : i < l.length) (t : List Int) : forL f (l.take (i + 1)) t = updL f (l.getD i 0).toNat (forL f (l.take i) t) := by
  have : l.take (i + 1) = l.take i ++ [l.getD i 0] := by
    rw [List.getD_eq_getElem?_getD, List.getElem?_eq_getElem hi, Option.getD_some, List.take_succ_eq_append_getElem hi]
  unfold forL
  rw [this, List.foldl_append]
  rfl
theorem forL_wh (f : Int → Int) (hit : Nat → Bool) (t : List Int) : ∀ n, forL f (whL hit n) t = foldC hit (updL f) t n
  | 0 => rfl
  | n + 1 => by
    rw [whL_succ]
    unfold forL
    rw [List.foldl_append]
    have ih := forL_wh f hit t n
    unfold forL at ih
    rw [ih]
    simp only [foldC]
    cases hit n <;> rfl
theorem rp_loop {α : Type} (hit : Nat → Bool) (f : Int → Int) (pb po : List Int) {n : Nat} (hp : pb.length = n) (hn : n ≤ 65536) (K : Nat → St2 → Option α) {N : Nat} (hN : n < N) :
    afterL (iterL N (rpF (whL hit n) f) (pb, po, 0, ())) K = K 0 (chgL hit f pb, po, ((whL hit n).length : Int), ()) := by
  have hlen := whL_len hit n
  have key := count_loop (f := rpF (whL hit n) f) (K := K) (fun i : Nat => (forL f ((whL hit n).take i) pb, po, (i : Int), ())) (whL hit n).length (b := 0) (y := (forL f ((whL hit n).take (whL hit n).length) pb, po, ((whL hit n).length : Int), ())) (fun i hi => ?_) ?_ (N := N) (by omega)
  · rw [List.take_length, forL_wh, ← hp, fold_chg, hp] at key
    exact key
  · obtain ⟨m, hv, hm, _⟩ := whL_at hit n hi
    have hl := forL_len f ((whL hit n).take i) pb
    unfold rpF
    simp only
    rw [decide_eq_true (show (i : Int) < ((whL hit n).length : Int) by omega), cond_true, in2_pos ⟨by omega, by omega⟩, in2_pos ⟨by omega, by omega⟩, Int.toNat_natCast, forL_take f hi, hv, in2_pos ⟨by omega, by omega⟩, in2_pos ⟨by omega, by omega⟩, i64_in ((i : Int) + 1) (by omega)]
    rfl
  · unfold rpF
    simp only
    rw [decide_eq_false (by omega)]
    rfl
theorem rs_loop {α : Type} (hit : Nat → Bool) (f : Int → Int) (pb po : List Int) {n : Nat} (hp : po.length = n) (hn : n ≤ 65536) (K : Nat → St2 → Option α) {N : Nat} (hN : n < N) :
    afterL (iterL N (rsF (whL hit n) f) (pb, po, 0, ())) K = K 0 (pb, chgL hit f po, ((whL hit n).length : Int), ()) := by
  have hlen := whL_len hit n
  have key := count_loop (f := rsF (whL hit n) f) (K := K) (fun i : Nat => (pb, forL f ((whL hit n).take i) po, (i : Int), ())) (whL hit n).length (b := 0) (y := (pb, forL f ((whL hit n).take (whL hit n).length) po, ((whL hit n).length : Int), ())) (fun i hi => ?_) ?_ (N := N) (by omega)
  · rw [List.take_length, forL_wh, ← hp, fold_chg, hp] at key
    exact key
  · obtain ⟨m, hv, hm, _⟩ := whL_at hit n hi
    have hl := forL_len f ((whL hit n).take i) po
    unfold rsF
    simp only
    rw [decide_eq_true (show (i : Int) < ((whL hit n).length : Int) by omega), cond_true, in2_pos ⟨by omega, by omega⟩, in2_pos ⟨by omega, by omega⟩, Int.toNat_natCast, forL_take f hi, hv, in2_pos ⟨by omega, by omega⟩, in2_pos ⟨by omega, by omega⟩, i64_in ((i : Int) + 1) (by omega)]
    rfl
  · unfold rsF
    simp only
    rw [decide_eq_false (by omega)]
    rfl
--CON rtouched
noncomputable def rtouchedS : Fsp := fun _ args k => match args with
  | [.agg [.int .i64 cx, .int .i64 cy, .int .i64 sd, .int .i64 w, .int .i64 h, .ro (.int .i64) pb, .ro (.int .i64) po], .agg [.int .i64 x, .int .i64 y], .agg [.int .i64 u, .int .i64 v]] => k (.ret (.tup [.ro (.int .i64) (tcV cx cy sd w h pb po x y u v), .int .i64 (er2 (twB cx cy sd w h pb po x y u v))]))
  | _ => none
--END
--FIN rpass | besom/besomref03.Pass | $ICB $GB (x y u v : Int) | $ICE, $GR, $S{x y}, $S{u v} | icO cx cy sd w h (chgL (fun i => toB cx cy sd w x y u v i) (fun i => wornV i we) pb) po ?? pasB $ICV $GV x y u v :: icN
theorem rpass_fin (cx cy sd w h : Int) (pb po : List Int) (fl ke sw be we : Int) (x y u v : Int) (hs : ∀ qSm ∈ ([.agg [.int .i64 cx, .int .i64 cy, .int .i64 sd, .int .i64 w, .int .i64 h, .ro (.int .i64) pb, .ro (.int .i64) po], .agg [.int .i64 fl, .int .i64 ke, .int .i64 sw, .int .i64 be, .int .i64 we], .agg [.int .i64 x, .int .i64 y], .agg [.int .i64 u, .int .i64 v]] : List AVal), Sm qSm) : ∃ N n, ∀ α (k : AOut → Option α), evFn real tab ((twY fnR9 spL).env real tab N n) N Tryz.f76 α [.agg [.int .i64 cx, .int .i64 cy, .int .i64 sd, .int .i64 w, .int .i64 h, .ro (.int .i64) pb, .ro (.int .i64) po], .agg [.int .i64 fl, .int .i64 ke, .int .i64 sw, .int .i64 be, .int .i64 we], .agg [.int .i64 x, .int .i64 y], .agg [.int .i64 u, .int .i64 v]] k = bif pasB cx cy sd w h pb po fl ke sw be we x y u v then k (icO cx cy sd w h (chgL (fun i => toB cx cy sd w x y u v i) (fun i => wornV i we) pb) po) else k (icN) := by
  refine ⟨65537, 8, fun α k => (rpass_text 65537 0 α cx cy sd w h pb po fl ke sw be we x y u v k).trans ?_⟩
  unfold pasB
  cases hI : iceB cx cy sd w h pb po
  · rfl
  cases hG : graB fl ke sw be we
  · rfl
  cases hp : plcB x y
  · rfl
  cases hq : plcB u v
  · rfl
  have g := ice_is _ _ _ _ _ _ _ hI
  have l1 := list_ok g.fw g.fh g.pl
  have l2 := list_ok g.fw g.fh g.ol
  obtain ⟨c1, c2⟩ := cels_le g.fw g.fh
  have hpl := g.pl
  simp only [Bool.not_true, Bool.and_self, cond_true, cond_false]
  rw [cop2_pos l1.2 l2.2, List.nil_append, List.nil_append, hI]
  rw [rtd_loop _ (toB cx cy sd w x y u v) (n := cels w h) (by rw [i64_in (w * h) (by omega)]; exact c2) c1 (fun i hi => by rw [decide_eq_true (show (0 : Int) ≤ i by omega), decide_eq_true (show (i : Int) < w * h by omega)]; rfl) _ (by omega), if_pos rfl]
  rw [rp_loop (fun i => toB cx cy sd w x y u v i) _ pb po (n := cels w h) (by omega) c1 _ (by omega), if_pos rfl]
--CON rpass
noncomputable def rpassS : Fsp := fun _ args k => match args with
  | [.agg [.int .i64 cx, .int .i64 cy, .int .i64 sd, .int .i64 w, .int .i64 h, .ro (.int .i64) pb, .ro (.int .i64) po], .agg [.int .i64 fl, .int .i64 ke, .int .i64 sw, .int .i64 be, .int .i64 we], .agg [.int .i64 x, .int .i64 y], .agg [.int .i64 u, .int .i64 v]] => bif pasB cx cy sd w h pb po fl ke sw be we x y u v then k (icO cx cy sd w h (chgL (fun i => toB cx cy sd w x y u v i) (fun i => wornV i we) pb) po) else k (icN)
  | _ => none
theorem rpassS_ok : FspOk Tryz.prog 76 rpassS := tower_Y fnR9_ok spL_ok ⟨Tryz.func76, fun _ _ => by kernel_rfl⟩ (by intro α args k; unfold rpassS; split <;> simp only [cond_bind, Option.bind_some, Option.bind_none]) fun args out hSm hEq => by
  unfold rpassS at hEq
  split at hEq
  · rename_i cx cy sd w h pb po fl ke sw be we x y u v
    obtain ⟨N, n, e⟩ := rpass_fin cx cy sd w h pb po fl ke sw be we x y u v hSm
    exact ⟨N, n, (e AOut some).trans hEq⟩
  · cases hEq
--END
--FIN rsweep | besom/besomref03.Sweep | $ICB (x y u v b : Int) | $ICE, $S{x y}, $S{u v}, $I{b} | icO cx cy sd w h pb (chgL (fun i => toB cx cy sd w x y u v i) (fun i => moreV i b) po) ?? twB $ICV x y u v && grnB b :: icN
theorem rsweep_fin (cx cy sd w h : Int) (pb po : List Int) (x y u v b : Int) (hs : ∀ qSm ∈ ([.agg [.int .i64 cx, .int .i64 cy, .int .i64 sd, .int .i64 w, .int .i64 h, .ro (.int .i64) pb, .ro (.int .i64) po], .agg [.int .i64 x, .int .i64 y], .agg [.int .i64 u, .int .i64 v], .int .i64 b] : List AVal), Sm qSm) : ∃ N n, ∀ α (k : AOut → Option α), evFn real tab ((twY fnR9 spL).env real tab N n) N Tryz.f77 α [.agg [.int .i64 cx, .int .i64 cy, .int .i64 sd, .int .i64 w, .int .i64 h, .ro (.int .i64) pb, .ro (.int .i64) po], .agg [.int .i64 x, .int .i64 y], .agg [.int .i64 u, .int .i64 v], .int .i64 b] k = bif twB cx cy sd w h pb po x y u v && grnB b then k (icO cx cy sd w h pb (chgL (fun i => toB cx cy sd w x y u v i) (fun i => moreV i b) po)) else k (icN) := by
  refine ⟨65537, 8, fun α k => (rsweep_text 65537 0 α cx cy sd w h pb po x y u v b k).trans ?_⟩
  unfold twB grnB
  cases hI : iceB cx cy sd w h pb po
  · rfl
  cases hp : plcB x y
  · rfl
  cases hq : plcB u v
  · rfl
  cases decide (0 ≤ b)
  · rfl
  cases decide (b ≤ 1000)
  · rfl
  have g := ice_is _ _ _ _ _ _ _ hI
  have l1 := list_ok g.fw g.fh g.pl
  have l2 := list_ok g.fw g.fh g.ol
  obtain ⟨c1, c2⟩ := cels_le g.fw g.fh
  have hol := g.ol
  simp only [Bool.not_true, Bool.and_self, cond_true, cond_false]
  rw [cop2_pos l1.2 l2.2, List.nil_append, List.nil_append, hI]
  rw [rtd_loop _ (toB cx cy sd w x y u v) (n := cels w h) (by rw [i64_in (w * h) (by omega)]; exact c2) c1 (fun i hi => by rw [decide_eq_true (show (0 : Int) ≤ i by omega), decide_eq_true (show (i : Int) < w * h by omega)]; rfl) _ (by omega), if_pos rfl]
  rw [rs_loop (fun i => toB cx cy sd w x y u v i) _ pb po (n := cels w h) (by omega) c1 _ (by omega), if_pos rfl]
--CON rsweep
noncomputable def rsweepS : Fsp := fun _ args k => match args with
  | [.agg [.int .i64 cx, .int .i64 cy, .int .i64 sd, .int .i64 w, .int .i64 h, .ro (.int .i64) pb, .ro (.int .i64) po], .agg [.int .i64 x, .int .i64 y], .agg [.int .i64 u, .int .i64 v], .int .i64 b] => bif twB cx cy sd w h pb po x y u v && grnB b then k (icO cx cy sd w h pb (chgL (fun i => toB cx cy sd w x y u v i) (fun i => moreV i b) po)) else k (icN)
  | _ => none
theorem rsweepS_ok : FspOk Tryz.prog 77 rsweepS := tower_Y fnR9_ok spL_ok ⟨Tryz.func77, fun _ _ => by kernel_rfl⟩ (by intro α args k; unfold rsweepS; split <;> simp only [cond_bind, Option.bind_some, Option.bind_none]) fun args out hSm hEq => by
  unfold rsweepS at hEq
  split at hEq
  · rename_i cx cy sd w h pb po x y u v b
    obtain ⟨N, n, e⟩ := rsweep_fin cx cy sd w h pb po x y u v b hSm
    exact ⟨N, n, (e AOut some).trans hEq⟩
  · cases hEq
--END
noncomputable def rpassTS : Fsp := fun _ args k => match args with
  | [.agg [.int .i64 cx, .int .i64 cy, .int .i64 sd, .int .i64 w, .int .i64 h, .ro (.int .i64) pb, .ro (.int .i64) po], .agg [.int .i64 fl, .int .i64 ke, .int .i64 sw, .int .i64 be, .int .i64 we], .agg [.int .i64 x, .int .i64 y], .agg [.int .i64 u, .int .i64 v]] => k (icT (pasB cx cy sd w h pb po fl ke sw be we x y u v) cx cy sd w h (chgL (fun i => toB cx cy sd w x y u v i) (fun i => wornV i we) pb) po)
  | _ => none
theorem rpassTS_ok : FspOk Tryz.prog 76 rpassTS := fsp_sim rpassS_ok (by intro α args k; unfold rpassTS; split <;> rfl) fun args out hq => by
  unfold rpassTS at hq
  split at hq
  · rename_i cx cy sd w h pb po fl ke sw be we x y u v
    cases hq
    obtain ⟨v1, v2, e1, e2, e3⟩ := ic_tot (pasB cx cy sd w h pb po fl ke sw be we x y u v) cx cy sd w h (chgL (fun i => toB cx cy sd w x y u v i) (fun i => wornV i we) pb) po
    refine ⟨v1, v2, e1, ?_, e3⟩
    rw [← e2]
    rfl
  · cases hq
noncomputable def rsweepTS : Fsp := fun _ args k => match args with
  | [.agg [.int .i64 cx, .int .i64 cy, .int .i64 sd, .int .i64 w, .int .i64 h, .ro (.int .i64) pb, .ro (.int .i64) po], .agg [.int .i64 x, .int .i64 y], .agg [.int .i64 u, .int .i64 v], .int .i64 b] => k (icT (twB cx cy sd w h pb po x y u v && grnB b) cx cy sd w h pb (chgL (fun i => toB cx cy sd w x y u v i) (fun i => moreV i b) po))
  | _ => none
theorem rsweepTS_ok : FspOk Tryz.prog 77 rsweepTS := fsp_sim rsweepS_ok (by intro α args k; unfold rsweepTS; split <;> rfl) fun args out hq => by
  unfold rsweepTS at hq
  split at hq
  · rename_i cx cy sd w h pb po x y u v b
    cases hq
    obtain ⟨v1, v2, e1, e2, e3⟩ := ic_tot (twB cx cy sd w h pb po x y u v && grnB b) cx cy sd w h pb (chgL (fun i => toB cx cy sd w x y u v i) (fun i => moreV i b) po)
    refine ⟨v1, v2, e1, ?_, e3⟩
    rw [← e2]
    rfl
  · cases hq
end Go.Proofs.YtgpljldfbhkdlaaGreat

/- The reference's roots (layer 1). -/
namespace Go.Proofs.YtgpljldfbhkdlaaGreat
open Go.RowKit

--AT fnR1 spL twY
def rrB (a : List Int) : Bool := isD a && decide (vl a < 332306998946228968225951765070086144)
/-- A round, with the number that is tried. -/
def rqBody {α : Type} (a : List Int) (n b m : Int) : Option (LRes (Int × Int × Unit) α) :=
  bif decide (b > 0) then
    bif decide (0 ≤ m) && decide (m ≤ 9223372036854775807) then
      bif isD (dg m) && isD (dg m) then
        bif isD (dg (vl (dg m) * vl (dg m))) && isD a then
          bif decide (cmp3 (vl (dg (vl (dg m) * vl (dg m)))) (vl a) ≤ 0) then some (LRes.cont (m, IntKind.i64.wrap (b.tdiv 2), ()))
          else some (LRes.cont (n, IntKind.i64.wrap (b.tdiv 2), ()))
        else none
      else none
    else none
  else some (LRes.brk 0 (n, b, ()))
def rqE (L : Nat) : Int := if IntKind.i64.wrap (IntKind.i64.wrap ((IntKind.i64.wrap (15 * (L : Int))).tdiv 2) + 1) < 58 then IntKind.i64.wrap (IntKind.i64.wrap ((IntKind.i64.wrap (15 * (L : Int))).tdiv 2) + 1) else 58
abbrev nbO (n : Int) (b : Bool) : AOut := .ret (.tup [.int .i64 n, .bool b])
def rqEnd {α : Type} (a : List Int) (y : Int) (k : AOut → Option α) : Option α :=
  bif decide (0 ≤ y) && decide (y ≤ 9223372036854775807) then
    bif isD (dg y) && isD (dg y) then
      bif isD (dg (vl (dg y) * vl (dg y))) && isD a then k (nbO y (cmp3 (vl (dg (vl (dg y) * vl (dg y)))) (vl a) == 0))
      else none
    else none
  else none
set_option maxRecDepth 100000 in
theorem rroot_text (N n0 : Nat) (α : Type) (a : List Int) (k : AOut → Option α) : evFn real tab ((twY fnR1 spL).env real tab N (n0 + 8)) N Tryz.f192 α [.ro (.int .i64) a] k =
    if rqE a.length < 0 then none
    else afterL (iterL N (fun x : Int × Int × Unit => rqBody a x.1 x.2.1 (IntKind.i64.wrap (x.1 + x.2.1))) (0, IntKind.i64.wrap (1 * 2 ^ min (rqE a.length).toNat 64), ())) fun id y => if id = 0 then rqEnd a y.1 k else none := by kernel_rfl
def rqN (L : Nat) : Nat := min 58 (15 * L / 2 + 1)
theorem rq_is : ∀ L, L < 13 → (¬ rqE L < 0) ∧ IntKind.i64.wrap (1 * 2 ^ min (rqE L).toNat 64) = ((2 ^ (rqN L + 1) / 2 : Nat) : Int) ∧ (rqN L = 58 ∨ 32768 ^ L ≤ 2 ^ (rqN L + 1) * 2 ^ (rqN L + 1)) ∧ rqN L ≤ 58 := by decide +kernel
theorem rr_bs {a : List Int} (h : rrB a = true) : rtP (vl a) (2 ^ (rqN a.length + 1)) = false ∧ ((bs (rtP (vl a)) (rqN a.length + 1) 0 : Nat) : Int) = rt (vl a) ∧ bs (rtP (vl a)) (rqN a.length + 1) 0 < 2 ^ 59 := by
  simp only [rrB, Bool.and_eq_true, decide_eq_true_eq] at h
  obtain ⟨hD, hv⟩ := h
  have h0 := (isD_iff.1 hD).2.1
  obtain ⟨_, _, c, d⟩ := rq_is a.length (by have := isD_len hD; omega)
  have lt := vl_lt (isD_low hD)
  have np : rtP (vl a) (2 ^ (rqN a.length + 1)) = false := by
    simp only [rtP, decide_eq_false_iff_not]
    rw [← Int.natCast_mul]
    rcases c with c | c
    · rw [c]
      have : ((2 ^ (58 + 1) * 2 ^ (58 + 1) : Nat) : Int) = 332306998946228968225951765070086144 := rfl
      rw [this]; omega
    · have : ((32768 ^ a.length : Nat) : Int) = (32768 : Int) ^ a.length := by simp
      omega
  have p0 : rtP (vl a) 0 = true := by simp only [rtP, decide_eq_true_eq]; omega
  have np' : rtP (vl a) (0 + 2 ^ (rqN a.length + 1)) = false := by rw [Nat.zero_add]; exact np
  have np63 : rtP (vl a) (0 + 2 ^ 63) = false := by
    simp only [rtP, decide_eq_false_iff_not]
    have : ((0 + 2 ^ 63 : Nat) : Int) * ((0 + 2 ^ 63 : Nat) : Int) = 85070591730234615865843651857942052864 := rfl
    rw [this]; omega
  obtain ⟨e1, e2, e3, e4⟩ := bs_spec (rtP (vl a)) (fun m n => rtP_anti m n) _ 0 p0 np'
  refine ⟨np, ?_, ?_⟩
  · rw [rt_bs, bs_eq (rtP (vl a)) (fun m n => rtP_anti m n) p0 np63 e1 e2]
  · have : 2 ^ (rqN a.length + 1) ≤ 2 ^ 59 := Nat.pow_le_pow_right (by omega) (by omega)
    omega
theorem rq_loop {α : Type} {a : List Int} (h : rrB a = true) (K : Nat → Int × Int × Unit → Option α) {N : Nat} (hN : 60 < N) :
    afterL (iterL N (fun x : Int × Int × Unit => rqBody a x.1 x.2.1 (IntKind.i64.wrap (x.1 + x.2.1))) (0, ((2 ^ (rqN a.length + 1) / 2 : Nat) : Int), ())) K = K 0 (rt (vl a), 0, ()) := by
  obtain ⟨np, eb, _⟩ := rr_bs h
  have h' := h
  simp only [rrB, Bool.and_eq_true, decide_eq_true_eq] at h'
  obtain ⟨hD, hv⟩ := h'
  have h0 := (isD_iff.1 hD).2.1
  obtain ⟨_, _, _, d⟩ := rq_is a.length (by have := isD_len hD; omega)
  have hle : 2 ^ (rqN a.length + 1) ≤ 2 ^ 59 := Nat.pow_le_pow_right (by omega) (by omega)
  have e := bit_searchK (f := fun x : Int × Int × Unit => rqBody (α := α) a x.1 x.2.1 (IntKind.i64.wrap (x.1 + x.2.1))) 0 (rtP (vl a)) (rqN a.length + 1) (fun n k a1 a2 a3 => ?_) (fun n => rfl) (rqN a.length + 1) 0 (Nat.zero_mod _) (by omega) (by simp only [rtP, decide_eq_true_eq]; omega) N (by omega)
  · have e' : iterL N (fun x : Int × Int × Unit => rqBody (α := α) a x.1 x.2.1 (IntKind.i64.wrap (x.1 + x.2.1))) (0, ((2 ^ (rqN a.length + 1) / 2 : Nat) : Int), ()) = some (.brk 0 (((bs (rtP (vl a)) (rqN a.length + 1) 0 : Nat) : Int), 0, ())) := e
    rw [e', eb]
    rfl
  · have p59 : (2 : Nat) ^ 59 = 576460752303423488 := rfl
    have hk : 2 ^ (k + 1) = 2 ^ k + 2 ^ k := by rw [Nat.pow_succ]; omega
    have hpos : 0 < 2 ^ k := Nat.two_pow_pos k
    have hw : IntKind.i64.wrap ((n : Int) + ((2 ^ k : Nat) : Int)) = ((n + 2 ^ k : Nat) : Int) := by rw [i64_in _ (by omega)]; omega
    have hsh : IntKind.i64.wrap ((((2 ^ k : Nat) : Int)).tdiv 2) = ((2 ^ k / 2 : Nat) : Int) := by
      rw [Int.tdiv_eq_ediv_of_nonneg (by omega), i64_in _ (by omega)]; omega
    have hm : (0 : Int) ≤ ((n + 2 ^ k : Nat) : Int) ∧ ((n + 2 ^ k : Nat) : Int) ≤ 576460752303423488 := by omega
    have hp : rtP (vl a) (n + 2 ^ k) = decide (((n + 2 ^ k : Nat) : Int) * ((n + 2 ^ k : Nat) : Int) ≤ vl a) := rfl
    have m2 := i7_D.sq_in' hm.1 hm.2
    have hpos2 : ((2 ^ k : Nat) : Int) > 0 := by omega
    show rqBody a (n : Int) ((2 ^ k : Nat) : Int) (IntKind.i64.wrap ((n : Int) + ((2 ^ k : Nat) : Int))) = _
    unfold rqBody
    rw [decide_eq_true hpos2, hw, hsh, hp]
    generalize hme : ((n + 2 ^ k : Nat) : Int) = m at *
    rw [decide_eq_true hm.1, decide_eq_true (show m ≤ 9223372036854775807 by omega), isD_dg (n := m) ⟨hm.1, by omega⟩, vl_dg _ hm.1, isD_dg (n := m * m) ⟨m2.1, by omega⟩, vl_dg _ m2.1, hD]
    simp only [Bool.and_self, cond_true]
    by_cases hq : m * m ≤ vl a
    · rw [decide_eq_true (cmp3_le0.2 hq), decide_eq_true hq]
      simp only [cond_true]
      rw [← hme]
    · rw [decide_eq_false (fun c => hq (cmp3_le0.1 c)), decide_eq_false hq]
      rfl
theorem rt_in {a : List Int} (h : rrB a = true) : 0 ≤ rt (vl a) ∧ rt (vl a) < 576460752303423488 := by
  obtain ⟨_, eb, lt⟩ := rr_bs h
  have p59 : (2 : Nat) ^ 59 = 576460752303423488 := rfl
  omega
theorem cmp3_eq0 (a b : Int) : (cmp3 a b == 0) = (a == b) := by
  unfold cmp3
  rw [Bool.eq_iff_iff]
  simp only [beq_iff_eq]
  split <;> (try split) <;> omega
--FIN rroot | besom/besomref01.root | (a : List Int) | .ro (.int .i64) a | nbO (rt (vl a)) (rt (vl a) * rt (vl a) == vl a) | rrB a
theorem rroot_fin (a : List Int) (hs : ∀ qSm ∈ ([.ro (.int .i64) a] : List AVal), Sm qSm) (hCo : (rrB a) = true) : ∃ N n, ∀ α (k : AOut → Option α), evFn real tab ((twY fnR1 spL).env real tab N n) N Tryz.f192 α [.ro (.int .i64) a] k = k (nbO (rt (vl a)) (rt (vl a) * rt (vl a) == vl a)) := by
  refine ⟨61, 8, fun α k => (rroot_text 61 0 α a k).trans ?_⟩
  have hCo' := hCo
  simp only [rrB, Bool.and_eq_true, decide_eq_true_eq] at hCo'
  obtain ⟨hD, hv⟩ := hCo'
  obtain ⟨c1, c2, _⟩ := rq_is a.length (by have := isD_len hD; omega)
  obtain ⟨r0, r1⟩ := rt_in hCo
  have m2 := i7_D.sq_in' r0 (show rt (vl a) ≤ 576460752303423488 by omega)
  rw [if_neg c1, c2, rq_loop hCo _ (by omega), if_pos rfl]
  unfold rqEnd
  rw [decide_eq_true r0, decide_eq_true (show rt (vl a) ≤ 9223372036854775807 by omega), isD_dg (n := rt (vl a)) ⟨r0, by omega⟩, vl_dg _ r0, isD_dg (n := rt (vl a) * rt (vl a)) ⟨m2.1, by omega⟩, vl_dg _ m2.1, hD, cmp3_eq0]
  rfl
--CON rroot
noncomputable def rrootS : Fsp := fun _ args k => match args with
  | [.ro (.int .i64) a] => bif rrB a then (k (nbO (rt (vl a)) (rt (vl a) * rt (vl a) == vl a))) else none
  | _ => none
theorem rrootS_ok : FspOk Tryz.prog 192 rrootS := tower_Y fnR1_ok spL_ok ⟨Tryz.func192, fun _ _ => by kernel_rfl⟩ (by intro α args k; unfold rrootS; split <;> simp only [cond_bind, Option.bind_some, Option.bind_none]) fun args out hSm hEq => by
  unfold rrootS at hEq
  split at hEq
  · rename_i a
    cases hc : rrB a
    · rw [hc] at hEq; cases hEq
    · rw [hc] at hEq
      obtain ⟨N, n, e⟩ := rroot_fin a hSm hc
      exact ⟨N, n, (e AOut some).trans hEq⟩
  · cases hEq
--END
--FS fnR2 | fnR1 | rroot
noncomputable def fnR2 : FuncId → Option Fsp := fun g =>
  if g = 192 then some rrootS else
  fnR1 g
theorem fnR2_ok : FsOk fnR2 :=
  fs_cons rrootS_ok <|
  fnR1_ok
--END
--AT fnR2 spL twY
def roT {α : Type} (a : List Int) (n v : Int) (k : AOut → Option α) : Option α :=
  bif decide (0 ≤ IntKind.i64.wrap (IntKind.i64.wrap (2 * n) + 1)) && decide (IntKind.i64.wrap (IntKind.i64.wrap (2 * n) + 1) ≤ 9223372036854775807) then
    bif isD a && isD (dg (IntKind.i64.wrap (1 * 2 ^ min (Int.toNat 2) 64))) then
      bif isD (dg (IntKind.i64.wrap (IntKind.i64.wrap (2 * n) + 1))) && isD (dg (IntKind.i64.wrap (IntKind.i64.wrap (2 * n) + 1))) then
        bif isD (dg (v * vl (dg (IntKind.i64.wrap (1 * 2 ^ min (Int.toNat 2) 64))))) && isD (dg (vl (dg (IntKind.i64.wrap (IntKind.i64.wrap (2 * n) + 1))) * vl (dg (IntKind.i64.wrap (IntKind.i64.wrap (2 * n) + 1))))) then
          bif decide (cmp3 (vl (dg (v * vl (dg (IntKind.i64.wrap (1 * 2 ^ min (Int.toNat 2) 64)))))) (vl (dg (vl (dg (IntKind.i64.wrap (IntKind.i64.wrap (2 * n) + 1))) * vl (dg (IntKind.i64.wrap (IntKind.i64.wrap (2 * n) + 1)))))) ≥ 0) then k (nbO (IntKind.i64.wrap (n + 1)) true)
          else k (nbO n true)
        else none
      else none
    else none
  else none
set_option maxRecDepth 100000 in
theorem rrooted_text (N n0 : Nat) (α : Type) (a : List Int) (how : Int) (k : AOut → Option α) : evFn real tab ((twY fnR2 spL).env real tab N (n0 + 8)) N Tryz.f167 α [.ro (.int .i64) a, .int .i64 how] k =
    bif rrB a then
      bif how == 2 then
        bif how == 3 then roT a (rt (vl a)) (vl a) k
        else bif !(rt (vl a) * rt (vl a) == vl a) then k (nbO (IntKind.i64.wrap (rt (vl a) + 1)) true) else k (nbO (rt (vl a)) true)
      else bif how == 3 then roT a (rt (vl a)) (vl a) k else k (nbO (rt (vl a)) true)
    else none := by kernel_rfl
theorem roT_fin {α : Type} {a : List Int} {n v : Int} (ha : isD a = true) (hn : 0 ≤ n ∧ n < 576460752303423488) (hv : 0 ≤ v ∧ v < 332306998946228968225951765070086144) (k : AOut → Option α) : roT a n v k = k (nbO (n + (bif decide ((2 * n + 1) * (2 * n + 1) ≤ 4 * v) then 1 else 0)) true) := by
  have two : IntKind.i64.wrap (1 * 2 ^ min (Int.toNat 2) 64) = 4 := by decide
  have m2 := i7_D.sq_in' (x := 2 * n + 1) (B := 1152921504606846976) (by omega) (by omega)
  unfold roT
  rw [i64_in (2 * n) (by omega), i64_in (2 * n + 1) (by omega), i64_in (n + 1) (by omega), two, decide_eq_true (show 0 ≤ 2 * n + 1 by omega), decide_eq_true (show 2 * n + 1 ≤ 9223372036854775807 by omega), ha, isD_dg (n := 4) ⟨by omega, by omega⟩, isD_dg (n := 2 * n + 1) ⟨by omega, by omega⟩, vl_dg 4 (by omega), vl_dg (2 * n + 1) (by omega), isD_dg (n := v * 4) ⟨by omega, by omega⟩, isD_dg (n := (2 * n + 1) * (2 * n + 1)) ⟨m2.1, by omega⟩, vl_dg (v * 4) (by omega), vl_dg _ m2.1]
  simp only [Bool.and_self, cond_true]
  by_cases h : (2 * n + 1) * (2 * n + 1) ≤ 4 * v
  · rw [decide_eq_true h, decide_eq_true (cmp3_ge.2 (show (2 * n + 1) * (2 * n + 1) ≤ v * 4 by omega))]
    rfl
  · rw [decide_eq_false h, decide_eq_false (fun c => h (by have := cmp3_ge.1 c; omega)), cond_false, cond_false, Int.add_zero]
--FIN rrooted | besom/besomref01.rooted | (a : List Int) (how : Int) | .ro (.int .i64) a, .int .i64 how | nbO (rtN (vl a) how) true | rrB a
theorem rrooted_fin (a : List Int) (how : Int) (hs : ∀ qSm ∈ ([.ro (.int .i64) a, .int .i64 how] : List AVal), Sm qSm) (hCo : (rrB a) = true) : ∃ N n, ∀ α (k : AOut → Option α), evFn real tab ((twY fnR2 spL).env real tab N n) N Tryz.f167 α [.ro (.int .i64) a, .int .i64 how] k = k (nbO (rtN (vl a) how) true) := by
  refine ⟨8, 8, fun α k => (rrooted_text 8 0 α a how k).trans ?_⟩
  obtain ⟨r0, r1⟩ := rt_in hCo
  have hCo' := hCo
  simp only [rrB, Bool.and_eq_true, decide_eq_true_eq] at hCo'
  have h0 := (isD_iff.1 hCo'.1).2.1
  rw [hCo, cond_true, roT_fin hCo'.1 ⟨r0, r1⟩ ⟨h0, hCo'.2⟩ k, i64_in (rt (vl a) + 1) (by omega)]
  unfold rtN rtUp
  by_cases h2 : how = 2
  · subst h2
    cases rt (vl a) * rt (vl a) == vl a
    · rfl
    · show k _ = k _
      simp
  · rw [beq_eq_false_iff_ne.2 h2, if_neg h2, cond_false]
    by_cases h3 : how = 3
    · subst h3
      rfl
    · rw [beq_eq_false_iff_ne.2 h3, if_neg h3, cond_false, cond_false, Int.add_zero]
--CON rrooted
noncomputable def rrootedS : Fsp := fun _ args k => match args with
  | [.ro (.int .i64) a, .int .i64 how] => bif rrB a then (k (nbO (rtN (vl a) how) true)) else none
  | _ => none
theorem rrootedS_ok : FspOk Tryz.prog 167 rrootedS := tower_Y fnR2_ok spL_ok ⟨Tryz.func167, fun _ _ => by kernel_rfl⟩ (by intro α args k; unfold rrootedS; split <;> simp only [cond_bind, Option.bind_some, Option.bind_none]) fun args out hSm hEq => by
  unfold rrootedS at hEq
  split at hEq
  · rename_i a how
    cases hc : rrB a
    · rw [hc] at hEq; cases hEq
    · rw [hc] at hEq
      obtain ⟨N, n, e⟩ := rrooted_fin a how hSm hc
      exact ⟨N, n, (e AOut some).trans hEq⟩
  · cases hEq
--END
--FS fnR3 | fnR2 | rrooted
noncomputable def fnR3 : FuncId → Option Fsp := fun g =>
  if g = 167 then some rrootedS else
  fnR2 g
theorem fnR3_ok : FsOk fnR3 :=
  fs_cons rrootedS_ok <|
  fnR2_ok
--END
theorem ft_fx {n : Int} (h : 0 ≤ n) : ftV n true = fxV false n ∧ ftE n true = fxE n := by
  have : okB n = fxB n := by
    rw [Bool.eq_iff_iff, ok_iff]; simp only [fxB, decide_eq_true_eq]; omega
  unfold ftV ftE fxV fxE
  rw [this]
  exact ⟨rfl, rfl⟩
theorem rt_nn (s : Int) : 0 ≤ rt s := by rw [rt_C]; exact Int.natCast_nonneg _
theorem rtN_nn (s how : Int) : 0 ≤ rtN s how := by
  have := rt_nn s
  unfold rtN
  cases rtUp s how <;> simp only [cond_true, cond_false] <;> omega
--CON rRoot
noncomputable def rRootS : Fsp := fun _ args k => match args with
  | [.int .i64 x, .int .i64 how] => k (i2 (rootV x how) (rootE x how))
  | _ => none
--END
--FS fnR4 | fnR3 | rRoot
noncomputable def fnR4 : FuncId → Option Fsp := fun g =>
  fnR3 g
theorem fnR4_ok : FsOk fnR4 :=
  fnR3_ok
--END
end Go.Proofs.YtgpljldfbhkdlaaGreat

/- The reference: lengths (layer 1), stones, brooms, ticks (layer 4). DRAFT, not built: texts are to be printed. -/
namespace Go.Proofs.YtgpljldfbhkdlaaGreat
open Go.RowKit

--AT fnR3 spL twY
--TEXT rlen | twY fnR3 spL | 8 | besom/besomref01.Length | (x y how : Int) | $S{x y}, $I{how}
--KEY 3ec756faf9
set_option maxRecDepth 100000 in
theorem rlen_text (N n0 : Nat) (α : Type) (x y how : Int) (k : AOut → Option α) : evFn real tab ((twY fnR3 spL).env real tab N (n0 + 8)) N Tryz.f113 α [.agg [.int .i64 x, .int .i64 y], .int .i64 how] k =
  bif okB x then
    bif !okB y then k (AOut.ret (AVal.tup [AVal.int IntKind.i64 0, AVal.int IntKind.i64 2]))
    else
      bif !wayB how then k (AOut.ret (AVal.tup [AVal.int IntKind.i64 0, AVal.int IntKind.i64 2]))
      else
        bif i7 x && i7 y then
          bif rrB (dg (sq2 x y)) then
            k
              (AOut.ret
                (AVal.tup
                  [AVal.int IntKind.i64 (ftV (rtN (vl (dg (sq2 x y))) how) true),
                    AVal.int IntKind.i64 (ftE (rtN (vl (dg (sq2 x y))) how) true)]))
          else none
        else none
  else k (AOut.ret (AVal.tup [AVal.int IntKind.i64 0, AVal.int IntKind.i64 2])) := by kernel_rfl
--END
--FIN rlen | besom/besomref01.Length | (x y how : Int) | $S{x y}, $I{how} | i2 (lenV x y how) (lenE x y how)
theorem rlen_fin (x y how : Int) (hs : ∀ qSm ∈ ([.agg [.int .i64 x, .int .i64 y], .int .i64 how] : List AVal), Sm qSm) : ∃ N n, ∀ α (k : AOut → Option α), evFn real tab ((twY fnR3 spL).env real tab N n) N Tryz.f113 α [.agg [.int .i64 x, .int .i64 y], .int .i64 how] k = k (i2 (lenV x y how) (lenE x y how)) := by
  refine ⟨8, 8, fun α k => (rlen_text 8 0 α x y how k).trans ?_⟩
  unfold lenV lenE lenB
  cases hx : okB x
  · cases okB y <;> cases wayB how <;> rfl
  cases hy : okB y
  · cases wayB how <;> rfl
  cases hw : wayB how
  · rfl
  have x7 := i7_ok hx; have y7 := i7_ok hy
  rw [ok_iff] at hx hy
  have ax : 0 ≤ ab x ∧ ab x ≤ 70368744177664 := by unfold ab; split <;> omega
  have ay : 0 ≤ ab y ∧ ab y ≤ 70368744177664 := by unfold ab; split <;> omega
  have m1 := mul_in ax ax
  have m2 := mul_in ay ay
  have hs : 0 ≤ sq2 x y ∧ sq2 x y < 332306998946228968225951765070086144 := by unfold sq2; omega
  have d : isD (dg (sq2 x y)) = true := isD_dg ⟨hs.1, by omega⟩
  have b : rrB (dg (sq2 x y)) = true := by
    unfold rrB
    rw [d, vl_dg _ hs.1, decide_eq_true hs.2]; rfl
  obtain ⟨f1, f2⟩ := ft_fx (rtN_nn (sq2 x y) how)
  rw [x7, y7, b, vl_dg _ hs.1, f1, f2]
  rfl
--CON rlen
noncomputable def rlenS : Fsp := fun _ args k => match args with
  | [.agg [.int .i64 x, .int .i64 y], .int .i64 how] => k (i2 (lenV x y how) (lenE x y how))
  | _ => none
theorem rlenS_ok : FspOk Tryz.prog 113 rlenS := tower_Y fnR3_ok spL_ok ⟨Tryz.func113, fun _ _ => by kernel_rfl⟩ (by intro α args k; unfold rlenS; split <;> rfl) fun args out hSm hEq => by
  unfold rlenS at hEq
  split at hEq
  · rename_i x y how
    obtain ⟨N, n, e⟩ := rlen_fin x y how hSm
    exact ⟨N, n, (e AOut some).trans hEq⟩
  · cases hEq
--END
--TEXT rleft | twY fnR3 spL | 8 | besom/besomref01.Left | (x y : Int) | $S{x y}
--KEY 6e4cbe6f94
set_option maxRecDepth 100000 in
theorem rleft_text (N n0 : Nat) (α : Type) (x y : Int) (k : AOut → Option α) : evFn real tab ((twY fnR3 spL).env real tab N (n0 + 8)) N Tryz.f117 α [.agg [.int .i64 x, .int .i64 y]] k =
  bif okB x then
    bif !okB y then k (AOut.ret (AVal.agg [AVal.int IntKind.i64 0, AVal.int IntKind.i64 0]))
    else k (AOut.ret (AVal.agg [AVal.int IntKind.i64 (IntKind.i64.wrap (0 - y)), AVal.int IntKind.i64 x]))
  else k (AOut.ret (AVal.agg [AVal.int IntKind.i64 0, AVal.int IntKind.i64 0])) := by kernel_rfl
--END
--TEXT rmov | twY fnR3 spL | 8 | besom/besomref04.Moving | $MB | $MO
--KEY fd2c1e244f
set_option maxRecDepth 100000 in
theorem rmov_text (N n0 : Nat) (α : Type) (ax ay vx vy sp : Int) (k : AOut → Option α) : evFn real tab ((twY fnR3 spL).env real tab N (n0 + 8)) N Tryz.f62 α [.agg [.int .i64 ax, .int .i64 ay, .int .i64 vx, .int .i64 vy, .int .i64 sp]] k =
  bif decide (vx ≥ -65536000) then
    bif decide (vy ≥ -65536000) then
      bif decide (vx ≤ 65536000) then
        bif decide (vy ≤ 65536000) then
          bif plcB ax ay then
            bif decide (-1000 ≤ sp) then k (AOut.ret (AVal.bool (decide (sp ≤ 1000)))) else k (AOut.ret (AVal.bool false))
          else k (AOut.ret (AVal.bool false))
        else k (AOut.ret (AVal.bool false))
      else k (AOut.ret (AVal.bool false))
    else bif decide (vx ≤ 65536000) then k (AOut.ret (AVal.bool false)) else k (AOut.ret (AVal.bool false))
  else bif decide (vy ≥ -65536000) then k (AOut.ret (AVal.bool false)) else k (AOut.ret (AVal.bool false)) := by kernel_rfl
--END
end Go.Proofs.YtgpljldfbhkdlaaGreat

/- The reference's layer 1: a spot times a number. -/
namespace Go.Proofs.YtgpljldfbhkdlaaGreat
open Go.RowKit

theorem mulE_in (a b h : Int) : mulE a b h = 0 ∨ mulE a b h = 2 ∨ mulE a b h = 4 := by
  unfold mulE fxE
  cases mulB a b h
  · exact .inr (.inl rfl)
  · cases fxB (prN a b h)
    · exact .inr (.inr rfl)
    · exact .inl rfl
def rtimesS : Fsp := fun _ args k => match args with
  | [.agg [.int .i64 x, .int .i64 y], .int .i64 v, .int .i64 h] => k (s2 (twoV (mulE x v h) (mulE y v h) (mulV x v h)) (twoV (mulE x v h) (mulE y v h) (mulV y v h)) (twoE (mulE x v h) (mulE y v h)))
  | _ => none
def bothK {α : Type} (x e y f : Int) (k : AOut → Option α) : Option α :=
  bif e == 2 then k (s2 0 0 2)
  else
    bif f == 2 then k (s2 0 0 2)
    else
      bif e != 0 then k (s2 0 0 (if e < f then f else e))
      else bif f != 0 then k (s2 0 0 (if e < f then f else e)) else k (s2 x y 0)
theorem bothK_eq {α : Type} {x e y f : Int} (he : e = 0 ∨ e = 2 ∨ e = 4) (hf : f = 0 ∨ f = 2 ∨ f = 4) (k : AOut → Option α) : bothK x e y f k = k (s2 (twoV e f x) (twoV e f y) (twoE e f)) := by
  rcases he with rfl | rfl | rfl <;> rcases hf with rfl | rfl | rfl <;> rfl
theorem rtimes_text (N n0 : Nat) (α : Type) (x y v h : Int) (k : AOut → Option α) : evFn real tab ((twT fnL (fun _ => none)).env real tab N (n0 + 2)) N Tryz.f116 α [sN x y, iN v, iN h] k = bothK (mulV x v h) (mulE x v h) (mulV y v h) (mulE y v h) k := by kernel_rfl
theorem rtimesS_ok : FspOk Tryz.prog 116 rtimesS := tower_S fnL_ok sp_nil ⟨Tryz.func116, fun _ _ => by kernel_rfl⟩ (by intro α args k; unfold rtimesS; split <;> rfl) fun args out hs h => by
  unfold rtimesS at h
  split at h
  · rename_i x y v w
    exact ⟨1, 2, (rtimes_text 1 0 AOut x y v w some).trans ((bothK_eq (mulE_in ..) (mulE_in ..) _).trans h)⟩
  · cases h
noncomputable def fnM : FuncId → Option Fsp := fun g =>
  if g = 116 then some rtimesS else
  fnL g
theorem fnM_ok : FsOk fnM :=
  fs_cons rtimesS_ok <|
  fnL_ok
end Go.Proofs.YtgpljldfbhkdlaaGreat

/- What is done under a deferred function that recovers: package glide's tried. -/
namespace Go.Proofs.YtgpljldfbhkdlaaGreat
open Go.RowKit

/-- The panic with which package glide ends its work. -/
def glPanic (e : Int) : List PanicEntry := [{ v := .iface 141 (.agg #[.int .i64 e]), recovered := false }]

theorem glassert_yes (c : Int) (w : World) : (Instr.typeAssert (.iface 141 (.agg #[.int .i64 c])) 20 141 true).run Tryz.prog w = .ok (.tuple #[.agg #[.int .i64 c], .bool true]) w := by kernel_rfl
theorem glassert_nil (w : World) : (Instr.typeAssert .nilIface 20 141 true).run Tryz.prog w = .ok (.tuple #[.agg #[.int .i64 0], .bool false]) w := by kernel_rfl

theorem gltried1_panic (b : Nat) (x c : Int) (w : World) (hp : w.cell? ⟨b, 0, none⟩ = some (.int .i64 x)) (fp : w.frozen? ⟨b, 0, none⟩ = false) (hqb : b < w.heap.size) :
    CallsD Tryz.prog 86 #[.pointer (some ⟨b, 0, none⟩)] (.panicking (glPanic c)) w fun e u' w' =>
      e = .returned (.tuple #[]) ∧ u' = .panicking [{ v := .iface 141 (.agg #[.int .i64 c]), recovered := true }] ∧ w'.cell? ⟨b, 0, none⟩ = some (.int .i64 c) ∧ Exd w.heap.size b w w' := by
  refine callsD_of_wpS Tryz.func86 rfl fun c₀ cs hu => ?_
  apply wpS_seq
  apply wpS_region
  simp [wpOpsS, go_sem, recoverD, hu, glPanic, Tryz.ntmps86, Exit.thenS, Array.replicate, List.replicate]
  refine wpS_of_wp ?_
  clear hu
  have hta := fun w => glassert_yes c w
  have ha : ∀ o, Below w.heap.size w (w.alloc o) := fun o => (Below.refl _ _).alloc (Nat.le_refl _) o
  have hp' : ∀ o, (w.alloc o).cell? ⟨b, 0, none⟩ = some (.int .i64 x) := fun o => ((ha o).cell (p := ⟨b, 0, none⟩) hqb).trans hp
  have fp' : ∀ o, (w.alloc o).frozen? ⟨b, 0, none⟩ = false := fun o => ((ha o).frozen (p := ⟨b, 0, none⟩) hqb).trans fp
  clear ha
  go_wp2
  all_goals
    (try go_big_unhide)
    simp [bodyPostS, results, Tryz.results86, go_sem]
    have hz : (w.setCell ⟨b, 0, none⟩ (.int .i64 c)).heap.size = w.heap.size := by simp [World.setCell]
    have hal : ∀ o, Below w.heap.size (w.setCell ⟨b, 0, none⟩ (.int .i64 c)) ((w.setCell ⟨b, 0, none⟩ (.int .i64 c)).alloc o) := fun o => (Below.refl _ _).alloc (by rw [hz]; exact Nat.le_refl _) o
    refine ⟨((hal _).cell (p := ⟨b, 0, none⟩) hqb).trans (cellSet _ hp), Exd.trans (b := w.setCell ⟨b, 0, none⟩ (.int .i64 c)) (.set _) (Exd.of (hal _))⟩

theorem gltried1_idle (b : Nat) (w : World) :
    CallsD Tryz.prog 86 #[.pointer (some ⟨b, 0, none⟩)] .returning w fun e u' w' =>
      e = .returned (.tuple #[]) ∧ u' = .returning ∧ Below w.heap.size w w' := by
  refine callsD_of_wpS Tryz.func86 rfl fun c₀ cs hu => ?_
  apply wpS_seq
  apply wpS_region
  simp [wpOpsS, go_sem, recoverD, hu, Tryz.ntmps86, Exit.thenS, Array.replicate, List.replicate]
  refine wpS_of_wp ?_
  have hta := fun w => glassert_nil w
  go_wp2
  all_goals
    simp [bodyPostS, results, Tryz.results86, go_sem]
    exact ⟨.returning, by cases c₀; simp_all, rfl, (Below.refl _ _).alloc (Nat.le_refl _) _⟩

set_option maxHeartbeats 1000000 in
/-- glide.tried, where the function returns. -/
theorem gltried_ok (K : FuncId) (caps : Array Value) (Q : World → Prop) (he : ∀ w, (callFunc K caps).run Tryz.prog w = .ok (.enter K caps) w) (w : World)
    (h : ∀ w1, Below w.heap.size w w1 → w.heap.size < w1.heap.size → Calls Tryz.prog K caps w1 fun e w' => e = .returned (.tuple #[]) ∧ w'.heap[w.heap.size]? = w1.heap[w.heap.size]? ∧ w1.heap.size ≤ w'.heap.size ∧ Q w') :
    Calls Tryz.prog 46 #[.func (.func K) #[] caps] w fun e w' => e = .returned (.int .i64 0) ∧ ∃ w2, Q w2 ∧ Exd w2.heap.size w.heap.size w2 w' := by
  have hmf : ∀ (fn : Fn) (first cap : Array Value) (w : World), (Instr.makeFunc fn first cap).run Tryz.prog w = .ok (.func fn first cap) w := fun _ _ _ _ => rfl
  have HH := hidOf h
  have hcall : ∀ w, (callFunc K caps).run Tryz.prog w = .ok (.enter K caps) w := he
  clear h he
  go_enter_defers Tryz.func46, Tryz.ntmps46
  go_wp2_with (go_at_fn K; refine (HH.out _ ((Below.refl _ _).alloc (Nat.le_refl _) _) (by simp)).mono ?_; rintro e w1 ⟨rfl, hb1, hz1, hq⟩; obtain ⟨hc1, hf1⟩ := one_kept hb1; have hz : w.heap.size < w1.heap.size := (by simp at hz1; omega); have hd1 := hc1 0)
  refine leaves_cons (f := 86) (args := #[.pointer (some ⟨w.heap.size, 0, none⟩)]) (by simp) (by simp [go_sem]) ?_
  have hs : (w1.setCell ⟨w.heap.size, 0, none⟩ (.int .i64 0)).heap.size = w1.heap.size := by simp [World.setCell]
  refine (gltried1_idle w.heap.size _).mono ?_
  rintro e u' w2 ⟨rfl, rfl, hb2⟩
  rw [hs] at hb2
  have g1 : w2.cell? ⟨w.heap.size, 0, none⟩ = some (.int .i64 0) := by
    rw [hb2.cell (p := ⟨w.heap.size, 0, none⟩) hz]
    exact cellSet _ hd1
  clear HH hcall hmf hc1 hf1 hd1
  simp [Leaves, settle, results, Tryz.results46, go_sem, g1]
  exact ⟨w1, hq, Exd.trans (.set _) (Exd.of hb2)⟩

set_option maxHeartbeats 1000000 in
/-- glide.tried, where the function panics. -/
theorem gltried_err (K : FuncId) (caps : Array Value) (c : Int) (Q : World → Prop) (he : ∀ w, (callFunc K caps).run Tryz.prog w = .ok (.enter K caps) w) (w : World)
    (h : ∀ w1, Below w.heap.size w w1 → w.heap.size < w1.heap.size → Calls Tryz.prog K caps w1 fun e w' => e = .panicked (glPanic c) ∧ w'.heap[w.heap.size]? = w1.heap[w.heap.size]? ∧ w1.heap.size ≤ w'.heap.size ∧ Q w') :
    Calls Tryz.prog 46 #[.func (.func K) #[] caps] w fun e w' => e = .returned (.int .i64 c) ∧ ∃ w2, Q w2 ∧ Exd w2.heap.size w.heap.size w2 w' := by
  have hmf : ∀ (fn : Fn) (first cap : Array Value) (w : World), (Instr.makeFunc fn first cap).run Tryz.prog w = .ok (.func fn first cap) w := fun _ _ _ _ => rfl
  have HH := hidOf h
  have hcall : ∀ w, (callFunc K caps).run Tryz.prog w = .ok (.enter K caps) w := he
  clear h he
  go_enter_defers Tryz.func46, Tryz.ntmps46
  go_wp2_with (go_at_fn K; refine (HH.out _ ((Below.refl _ _).alloc (Nat.le_refl _) _) (by simp)).mono ?_; rintro e w1 ⟨rfl, hb1, hz1, hq⟩; obtain ⟨hc1, hf1⟩ := one_kept hb1; have hz : w.heap.size < w1.heap.size := (by simp at hz1; omega))
  refine leaves_cons (f := 86) (args := #[.pointer (some ⟨w.heap.size, 0, none⟩)]) (by simp) (by simp [go_sem]) ?_
  refine (gltried1_panic w.heap.size 0 c _ (hc1 0) (hf1 0) hz).mono ?_
  rintro e u' w2 ⟨rfl, rfl, g1, hb2⟩
  clear HH hcall hmf hc1 hf1
  simp [Leaves, settle, results, Tryz.results46, go_sem, g1]
  exact ⟨w1, hq, hb2⟩
theorem gltried_tried : TriedOk Tryz.prog 46 141 :=
  ⟨fun args w => by kernel_rfl, fun K caps Q he w h => gltried_ok K caps Q he w h, fun K caps c Q he w h => gltried_err K caps c Q he w h⟩
noncomputable def spG : FuncId → Option (Cv → Cv) := fun g =>
  if g = 46 then some (triedS 141) else
  spL g
theorem spG_ok : SpOk spG :=
  sp_cons (fun cv h caps => tried_at gltried_tried cv h caps) <|
  spL_ok
end Go.Proofs.YtgpljldfbhkdlaaGreat

/- Glide: what must be reckoned. -/
namespace Go.Proofs.YtgpljldfbhkdlaaGreat
open Go.RowKit

abbrev glmis (e : Int) : AOut := .pan (.ifc 141 (.agg [iN e]))
--AT fsI12 spG twY
theorem gmusS_text (N n0 : Nat) (α : Type) (x y e : Int) (k : AOut → Option α) : evFn real tab ((twY fsI12 spG).env real tab N (n0 + 8)) N Tryz.f91 α [.agg [.int .i64 x, .int .i64 y], .int .i64 e] k = bif e != 0 then k (glmis e) else k (.ret (.agg [.int .i64 x, .int .i64 y])) := by kernel_rfl
--FIN gmusS | besom/glide.must[besom/api.Spot] | (x y e : Int) | $S{x y}, $I{e} | glmis e ?? e != 0 :: .ret ($S{x y})
theorem gmusS_fin (x y e : Int) (hs : ∀ qSm ∈ ([.agg [.int .i64 x, .int .i64 y], .int .i64 e] : List AVal), Sm qSm) : ∃ N n, ∀ α (k : AOut → Option α), evFn real tab ((twY fsI12 spG).env real tab N n) N Tryz.f91 α [.agg [.int .i64 x, .int .i64 y], .int .i64 e] k = bif e != 0 then k (glmis e) else k (.ret (.agg [.int .i64 x, .int .i64 y])) := by
  exact ⟨8, 8, fun α k => gmusS_text 8 0 α x y e k⟩
--CON gmusS
noncomputable def gmusSS : Fsp := fun _ args k => match args with
  | [.agg [.int .i64 x, .int .i64 y], .int .i64 e] => bif e != 0 then k (glmis e) else k (.ret (.agg [.int .i64 x, .int .i64 y]))
  | _ => none
theorem gmusSS_ok : FspOk Tryz.prog 91 gmusSS := tower_Y fsI12_ok spG_ok ⟨Tryz.func91, fun _ _ => by kernel_rfl⟩ (by intro α args k; unfold gmusSS; split <;> simp only [cond_bind, Option.bind_some, Option.bind_none]) fun args out hSm hEq => by
  unfold gmusSS at hEq
  split at hEq
  · rename_i x y e
    obtain ⟨N, n, e⟩ := gmusS_fin x y e hSm
    exact ⟨N, n, (e AOut some).trans hEq⟩
  · cases hEq
--END
theorem gmusF_text (N n0 : Nat) (α : Type) (x e : Int) (k : AOut → Option α) : evFn real tab ((twY fsI12 spG).env real tab N (n0 + 8)) N Tryz.f87 α [.int .i64 x, .int .i64 e] k = bif e != 0 then k (glmis e) else k (.ret (.int .i64 x)) := by kernel_rfl
--FIN gmusF | besom/glide.must[besom/api.Fix] | (x e : Int) | $I{x}, $I{e} | glmis e ?? e != 0 :: .ret ($I{x})
theorem gmusF_fin (x e : Int) (hs : ∀ qSm ∈ ([.int .i64 x, .int .i64 e] : List AVal), Sm qSm) : ∃ N n, ∀ α (k : AOut → Option α), evFn real tab ((twY fsI12 spG).env real tab N n) N Tryz.f87 α [.int .i64 x, .int .i64 e] k = bif e != 0 then k (glmis e) else k (.ret (.int .i64 x)) := by
  exact ⟨8, 8, fun α k => gmusF_text 8 0 α x e k⟩
--CON gmusF
noncomputable def gmusFS : Fsp := fun _ args k => match args with
  | [.int .i64 x, .int .i64 e] => bif e != 0 then k (glmis e) else k (.ret (.int .i64 x))
  | _ => none
theorem gmusFS_ok : FspOk Tryz.prog 87 gmusFS := tower_Y fsI12_ok spG_ok ⟨Tryz.func87, fun _ _ => by kernel_rfl⟩ (by intro α args k; unfold gmusFS; split <;> simp only [cond_bind, Option.bind_some, Option.bind_none]) fun args out hSm hEq => by
  unfold gmusFS at hEq
  split at hEq
  · rename_i x e
    obtain ⟨N, n, e⟩ := gmusF_fin x e hSm
    exact ⟨N, n, (e AOut some).trans hEq⟩
  · cases hEq
--END
--FS fsG1 | fsI12 | gmusS;gmusF
noncomputable def fsG1 : FuncId → Option Fsp := fun g =>
  if g = 91 then some gmusSS else
  if g = 87 then some gmusFS else
  fsI12 g
theorem fsG1_ok : FsOk fsG1 :=
  fs_cons gmusSS_ok <|
  fs_cons gmusFS_ok <|
  fsI12_ok
--END
end Go.Proofs.YtgpljldfbhkdlaaGreat

/- Glide: contracts of functions that may err, where they do not. -/
namespace Go.Proofs.YtgpljldfbhkdlaaGreat
open Go.RowKit

/-- A contract, where there is no error. -/
def onlyS (S : Fsp) : Fsp := fun α args k => S α args fun out => match out with
  | .ret (.tup [v, .int .i64 e]) => bif e == 0 then k (.ret (.tup [v, .int .i64 0])) else none
  | _ => none
theorem only_ok {P : Program} {f : FuncId} {S : Fsp} (h : FspOk P f S) : FspOk P f (onlyS S) := by
  have e : ∀ (α : Type) args (k : AOut → Option α), onlyS S α args k = (S AOut args some).bind fun out => match out with
      | .ret (.tup [v, .int .i64 e]) => bif e == 0 then k (.ret (.tup [v, .int .i64 0])) else none
      | _ => none := fun α args k => h.nat α args _
  refine fsp_sim h (fun α args k => ?_) fun args out hq => ?_
  · rw [e, e]
    cases S AOut args some with
    | none => rfl
    | some out =>
      simp only [Option.bind_some]
      split
      · rename_i v er
        cases er == 0 <;> rfl
      · rfl
  · rw [e] at hq
    cases hs : S AOut args some with
    | none => rw [hs] at hq; cases hq
    | some o =>
      rw [hs] at hq
      simp only [Option.bind_some] at hq
      split at hq
      · rename_i v er
        cases he : er == 0
        · rw [he] at hq; cases hq
        · rw [he] at hq
          have h0 : er = 0 := by simpa using he
          subst h0
          cases hq
          exact ⟨_, _, rfl, rfl, .refl _⟩
      · cases hq
noncomputable def fsG2 : FuncId → Option Fsp := fun g =>
  if g = 19 then some (onlyS flenS) else
  if g = 97 then some (onlyS minusPS) else
  if g = 95 then some (onlyS fmulS) else
  if g = 96 then some (onlyS plusPS) else
  if g = 89 then some (onlyS scaleS) else
  if g = 93 then some (onlyS timesS) else
  if g = 92 then some (onlyS uniS) else
  if g = 90 then some (onlyS ibendS) else
  if g = 88 then some (onlyS islowS) else
  fsG1 g
theorem fsG2_ok : FsOk fsG2 :=
  fs_cons (only_ok flenS_ok) <|
  fs_cons (only_ok minusPS_ok) <|
  fs_cons (only_ok fmulS_ok) <|
  fs_cons (only_ok plusPS_ok) <|
  fs_cons (only_ok scaleS_ok) <|
  fs_cons (only_ok timesS_ok) <|
  fs_cons (only_ok uniS_ok) <|
  fs_cons (only_ok ibendS_ok) <|
  fs_cons (only_ok islowS_ok) <|
  fsG1_ok
end Go.Proofs.YtgpljldfbhkdlaaGreat

/- Glide: stones that are valid; a tick. The text of a tick is DRAFT: to be typed with own abbreviations (gt prints 2900 lines: the numbers are repeated). -/
namespace Go.Proofs.YtgpljldfbhkdlaaGreat
open Go.RowKit

def movB (ax ay vx vy sp : Int) : Bool := plcB ax ay && ((decide (-65536000 ≤ vx) && decide (vx ≤ 65536000)) && (decide (-65536000 ≤ vy) && decide (vy ≤ 65536000))) && (decide (-1000 ≤ sp) && decide (sp ≤ 1000))
--AT fsG2 spG twY
set_option maxRecDepth 100000 in
theorem gcheck_text (N n0 : Nat) (α : Type) (ax ay vx vy sp : Int) (k : AOut → Option α) : evFn real tab ((twY fsG2 spG).env real tab N (n0 + 8)) N Tryz.f23 α [.agg [.int .i64 ax, .int .i64 ay, .int .i64 vx, .int .i64 vy, .int .i64 sp]] k =
    bif decide (IntKind.i64.wrap (0 - 6553600000) ≤ ax) then bif decide (ax ≤ 6553600000) then bif decide (IntKind.i64.wrap (0 - 6553600000) ≤ ay) then bif !decide (ay ≤ 6553600000) then k (i1 2)
    else bif decide (IntKind.i64.wrap (0 - 65536000) ≤ vx) then bif decide (vx ≤ 65536000) then bif decide (IntKind.i64.wrap (0 - 65536000) ≤ vy) then bif !decide (vy ≤ 65536000) then k (i1 2)
    else bif decide (-1000 ≤ sp) then bif !decide (sp ≤ 1000) then k (i1 2) else k (i1 0) else k (i1 2)
    else k (i1 2) else k (i1 2) else k (i1 2) else k (i1 2) else k (i1 2) else k (i1 2) := by kernel_rfl
--FIN gcheck | besom/glide.Check | $MB | $MO | i1 (er2 (movB $MV))
theorem gcheck_fin (ax ay vx vy sp : Int) (hs : ∀ qSm ∈ ([.agg [.int .i64 ax, .int .i64 ay, .int .i64 vx, .int .i64 vy, .int .i64 sp]] : List AVal), Sm qSm) : ∃ N n, ∀ α (k : AOut → Option α), evFn real tab ((twY fsG2 spG).env real tab N n) N Tryz.f23 α [.agg [.int .i64 ax, .int .i64 ay, .int .i64 vx, .int .i64 vy, .int .i64 sp]] k = k (i1 (er2 (movB ax ay vx vy sp))) := by
  refine ⟨8, 8, fun α k => (gcheck_text 8 0 α ax ay vx vy sp k).trans ?_⟩
  have e1 : IntKind.i64.wrap (0 - 6553600000) = -6553600000 := by decide
  have e2 : IntKind.i64.wrap (0 - 65536000) = -65536000 := by decide
  rw [e1, e2]
  unfold movB plcB
  cases decide (-6553600000 ≤ ax) <;> cases decide (ax ≤ 6553600000) <;> cases decide (-6553600000 ≤ ay) <;> cases decide (ay ≤ 6553600000) <;> first
    | rfl
    | (cases decide (-65536000 ≤ vx) <;> cases decide (vx ≤ 65536000) <;> cases decide (-65536000 ≤ vy) <;> cases decide (vy ≤ 65536000) <;> cases decide (-1000 ≤ sp) <;> cases decide (sp ≤ 1000) <;> rfl)
--CON gcheck
noncomputable def gcheckS : Fsp := fun _ args k => match args with
  | [.agg [.int .i64 ax, .int .i64 ay, .int .i64 vx, .int .i64 vy, .int .i64 sp]] => k (i1 (er2 (movB ax ay vx vy sp)))
  | _ => none
theorem gcheckS_ok : FspOk Tryz.prog 23 gcheckS := tower_Y fsG2_ok spG_ok ⟨Tryz.func23, fun _ _ => by kernel_rfl⟩ (by intro α args k; unfold gcheckS; split <;> rfl) fun args out hSm hEq => by
  unfold gcheckS at hEq
  split at hEq
  · rename_i ax ay vx vy sp
    obtain ⟨N, n, e⟩ := gcheck_fin ax ay vx vy sp hSm
    exact ⟨N, n, (e AOut some).trans hEq⟩
  · cases hEq
--END
--FS fsG3 | fsG2 | gcheck
noncomputable def fsG3 : FuncId → Option Fsp := fun g =>
  if g = 23 then some gcheckS else
  fsG2 g
theorem fsG3_ok : FsOk fsG3 :=
  fs_cons gcheckS_ok <|
  fsG2_ok
--END
end Go.Proofs.YtgpljldfbhkdlaaGreat

/- Glide: a tick, its text. -/
namespace Go.Proofs.YtgpljldfbhkdlaaGreat
open Go.RowKit

section
variable {α : Type}
abbrev mvO (ax ay vx vy sp : Int) : AOut := .ret (.agg [iN ax, iN ay, iN vx, iN vy, iN sp])
noncomputable def tk4 (ax ay sp VX VY : Int) (k : AOut → Option α) : Option α :=
  bif plE ax ay VX VY == 0 then
    bif er2 (movB (plX ax ay VX VY) (plY ax ay VX VY) VX VY sp) != 0 then k (glmis 4) else k (mvO (plX ax ay VX VY) (plY ax ay VX VY) VX VY sp)
  else none
noncomputable def tk3 (ax ay vx vy sp bx by' sx sy : Int) (k : AOut → Option α) : Option α :=
  bif miE vx vy bx by' == 0 then
    bif plE (miX vx vy bx by') (miY vx vy bx by') sx sy == 0 then
      tk4 ax ay sp (plX (miX vx vy bx by') (miY vx vy bx by') sx sy) (plY (miX vx vy bx by') (miY vx vy bx by') sx sy) k
    else none
  else none
noncomputable def tk2 (ax ay vx vy sp B C bx by' lx ly : Int) (k : AOut → Option α) : Option α :=
  bif mpE B C 0 == 0 then
    bif tiE lx ly (mpV B C 0) 0 == 0 then tk3 ax ay vx vy sp bx by' (tiV lx ly (mpV B C 0) 0 lx) (tiV lx ly (mpV B C 0) 0 ly) k else none
  else none
noncomputable def tk1 (ax ay vx vy sp B C ux uy : Int) (k : AOut → Option α) : Option α :=
  bif uniE vx vy == 0 then
    bif tiE ux uy B 0 == 0 then
      bif [ux].all okB then
        bif [uy].all okB then tk2 ax ay vx vy sp B C (tiV ux uy B 0 ux) (tiV ux uy B 0 uy) (IntKind.i64.wrap (0 - uy)) ux k
        else tk2 ax ay vx vy sp B C (tiV ux uy B 0 ux) (tiV ux uy B 0 uy) 0 0 k
      else tk2 ax ay vx vy sp B C (tiV ux uy B 0 ux) (tiV ux uy B 0 uy) 0 0 k
    else none
  else none
noncomputable def tk0 (ax ay vx vy sp n sE slow bend : Int) (k : AOut → Option α) : Option α :=
  bif sE == 0 then
    bif slE slow (IntKind.i64.wrap (5000 - n)) 5000 3 == 0 then
      bif lenE vx vy 1 == 0 then
        bif decide (lenV vx vy 1 ≤ slV slow (IntKind.i64.wrap (5000 - n)) 5000 3) then k (mvO ax ay 0 0 0)
        else bif sE == 0 then
          bif slE bend (IntKind.i64.wrap (2000 - n)) 2000 3 == 0 then
            bif slE (slV bend (IntKind.i64.wrap (2000 - n)) 2000 3) sp 1000 0 == 0 then
              tk1 ax ay vx vy sp (slV slow (IntKind.i64.wrap (5000 - n)) 5000 3) (slV (slV bend (IntKind.i64.wrap (2000 - n)) 2000 3) sp 1000 0) (uniV vx vy vx) (uniV vx vy vy) k
            else none
          else none
        else none
      else none
    else none
  else none
end
--AT fsG3 spG twY
set_option maxRecDepth 100000 in
theorem gtick_text (N n0 : Nat) (α : Type) (cx cy sd w h : Int) (pb po : List Int) (fl ke sw be we : Int) (ax ay vx vy sp : Int) (n : Int) (k : AOut → Option α) : evFn real tab ((twY fsG3 spG).env real tab N (n0 + 8)) N Tryz.f48 α [.agg [.int .i64 cx, .int .i64 cy, .int .i64 sd, .int .i64 w, .int .i64 h, .ro (.int .i64) pb, .ro (.int .i64) po, .int .i64 fl, .int .i64 ke, .int .i64 sw, .int .i64 be, .int .i64 we], .agg [.int .i64 ax, .int .i64 ay, .int .i64 vx, .int .i64 vy, .int .i64 sp], .int .i64 n] k =
    tk0 ax ay vx vy sp n (slwE cx cy sd w h pb po fl ke sw be we ax ay) (slwV cx cy sd w h pb po fl ke sw be we ax ay) (bdvV cx cy sd w h pb po fl ke sw be we ax ay) k := by kernel_rfl
end Go.Proofs.YtgpljldfbhkdlaaGreat

/- Glide: a tick in plain numbers. -/
namespace Go.Proofs.YtgpljldfbhkdlaaGreat
open Go.RowKit

/-- A product, cut. -/
def cutP (a b : Int) : Int := sg (xorB (ngB a) (ngB b)) (ab a * ab b / 65536)
theorem cut_sz (a b : Int) : ab (cutP a b) = ab a * ab b / 65536 := ab_sg _ (Int.ediv_nonneg (Int.mul_nonneg (ab_nn a) (ab_nn b)) (by omega))
theorem cut_in {a b B : Int} (ha : -65536 ≤ a ∧ a ≤ 65536) (hb : -B ≤ b ∧ b ≤ B) : -B ≤ cutP a b ∧ cutP a b ≤ B := by
  rw [← ab_le, cut_sz]
  have h1 : ab a * ab b ≤ ab b * 65536 := by rw [Int.mul_comm (ab b)]; exact Int.mul_le_mul_of_nonneg_right (ab_le.2 ha) (ab_nn b)
  have h2 := div_le (show (0 : Int) < 65536 by omega) h1
  have h3 := ab_le.2 hb
  omega
theorem pr_cut2 {a b : Int} (ha : -1048576 ≤ a ∧ a ≤ 1048576) (hb : -1048576 ≤ b ∧ b ≤ 1048576) : prP a b 0 = ab a * ab b / 65536 ∧ prN a b 0 = ab a * ab b / 65536 ∧ fxB (ab a * ab b / 65536) = true := by
  have h := mul_in ⟨ab_nn a, ab_le.2 ha⟩ ⟨ab_nn b, ab_le.2 hb⟩
  refine ⟨?_, ?_, ?_⟩
  · unfold prP
    rw [rndP_small h.1 (by omega) (by omega), rnd_cut]
  · unfold prN
    rw [rnd_cut]
  · exact decide_eq_true (by omega)
theorem mp_cut {a b : Int} (ha : -1048576 ≤ a ∧ a ≤ 1048576) (hb : -1048576 ≤ b ∧ b ≤ 1048576) : mpE a b 0 = 0 ∧ mpV a b 0 = cutP a b := by
  obtain ⟨p1, _, p3⟩ := pr_cut2 ha hb
  unfold mpE mpV fxE fxV
  rw [ok_le ha (by omega), ok_le hb (by omega), p1, p3]
  exact ⟨rfl, rfl⟩
theorem ti_cut2 {x y b : Int} (hx : -1048576 ≤ x ∧ x ≤ 1048576) (hy : -1048576 ≤ y ∧ y ≤ 1048576) (hb : -1048576 ≤ b ∧ b ≤ 1048576) : tiE x y b 0 = 0 ∧ tiV x y b 0 x = cutP x b ∧ tiV x y b 0 y = cutP y b := by
  obtain ⟨p1, _, p3⟩ := pr_cut2 hx hb
  obtain ⟨q1, _, q3⟩ := pr_cut2 hy hb
  have hk : tiOk x y b = true := by unfold tiOk; rw [ok_le hx (by omega), ok_le hy (by omega), ok_le hb (by omega)]; rfl
  have hf : tiFit x y b 0 = true := by unfold tiFit; rw [p1, p3, q1, q3]; rfl
  unfold tiE tiV
  rw [hk, hf, p1, q1]
  exact ⟨rfl, rfl, rfl⟩
/-- The bend, as the spin is. -/
def spnV (c sp : Int) : Int := sg (ngB sp) (c * ab sp / 1000)
theorem spn_in {c sp : Int} (hc : 0 ≤ c ∧ c ≤ 65536) (hs : -1000 ≤ sp ∧ sp ≤ 1000) : (0 ≤ c * ab sp / 1000 ∧ c * ab sp / 1000 ≤ 65536) ∧ (-65536 ≤ spnV c sp ∧ spnV c sp ≤ 65536) := by
  have h := mul_in hc ⟨ab_nn sp, ab_le.2 hs⟩
  have h1 : 0 ≤ c * ab sp / 1000 ∧ c * ab sp / 1000 ≤ 65536 := ⟨Int.ediv_nonneg h.1 (by omega), by omega⟩
  refine ⟨h1, ?_⟩
  rw [← ab_le]
  unfold spnV
  rw [ab_sg _ h1.1]; exact h1.2
theorem sl_spin {c sp : Int} (hc : 0 ≤ c ∧ c ≤ 65536) (hs : -1000 ≤ sp ∧ sp ≤ 1000) : slE c sp 1000 0 = 0 ∧ slV c sp 1000 0 = spnV c sp := by
  have h := mul_in hc ⟨ab_nn sp, ab_le.2 hs⟩
  have hi := (spn_in hc hs).1
  have hg : scG c sp 1000 = ngB sp := by unfold scG; rw [ng_pos hc.1, ng_pos (x := 1000) (by omega)]; cases ngB sp <;> rfl
  have hP : slP c sp 1000 0 = c * ab sp / 1000 := by
    unfold slP
    rw [ab_pos hc.1, show ab 1000 = 1000 from rfl, rndP_small h.1 (by omega) (by omega), rnd_cut]
  have hok : slOk c sp 1000 = true := by
    unfold slOk
    rw [ok_iff.2 (by omega), rate_iff.2 (by omega), rate_iff.2 (by omega)]; rfl
  have hf : fxB (c * ab sp / 1000) = true := decide_eq_true (by omega)
  unfold slE slV fxE fxV
  rw [hok, hP, hg, hf]
  exact ⟨rfl, rfl⟩
/-- The way of a stone that moves. -/
structure Dir (vx vy : Int) : Prop where
  ux : -65536 ≤ uniV vx vy vx ∧ uniV vx vy vx ≤ 65536
  uy : -65536 ≤ uniV vx vy vy ∧ uniV vx vy vy ≤ 65536
  e : uniE vx vy = 0
theorem dir_of {dx dy : Int} (hx : okB dx = true) (hy : okB dy = true) (hz : sq2 dx dy ≠ 0) : Dir dx dy := by
  obtain ⟨s1, s2⟩ := shB_of hx hy hz
  have a := shr_in s1
  have b := shr_in s2
  rw [vw_hl] at a b
  obtain ⟨a0, a1, _, _⟩ := a
  obtain ⟨b0, b1, _, _⟩ := b
  have ex : uniV dx dy dx = sg (ngB dx) (shr (ab dx) (sq2 dx dy)) := by unfold uniV uniB; rw [hx, hy, beq_eq_false_iff_ne.2 hz]; rfl
  have ey : uniV dx dy dy = sg (ngB dy) (shr (ab dy) (sq2 dx dy)) := by unfold uniV uniB; rw [hx, hy, beq_eq_false_iff_ne.2 hz]; rfl
  refine ⟨?_, ?_, ?_⟩
  · rw [← ab_le, ex, ab_sg _ a0]; exact a1
  · rw [← ab_le, ey, ab_sg _ b0]; exact b1
  · unfold uniE uniB; rw [hx, hy, beq_eq_false_iff_ne.2 hz]; rfl
/-- How fast a stone is. -/
theorem len_down {vx vy : Int} (hx : -65536000 ≤ vx ∧ vx ≤ 65536000) (hy : -65536000 ≤ vy ∧ vy ≤ 65536000) : lenE vx vy 1 = 0 ∧ lenV vx vy 1 = rt (sq2 vx vy) ∧ (0 ≤ lenV vx vy 1 ∧ lenV vx vy 1 ≤ 131072000) ∧ (sq2 vx vy = 0 → lenV vx vy 1 = 0) := by
  have m1 := mul_in ⟨ab_nn vx, ab_le.2 hx⟩ ⟨ab_nn vx, ab_le.2 hx⟩
  have m2 := mul_in ⟨ab_nn vy, ab_le.2 hy⟩ ⟨ab_nn vy, ab_le.2 hy⟩
  have hs : 0 ≤ sq2 vx vy ∧ sq2 vx vy ≤ 8589934592000000 := by unfold sq2; omega
  obtain ⟨r0, r1, r2, r3⟩ := rt_spec hs.1 (by omega)
  have hr : rt (sq2 vx vy) ≤ 131072000 := by
    rcases Int.lt_or_le 131072000 (rt (sq2 vx vy)) with c | c
    · have : 131072000 * 131072000 ≤ rt (sq2 vx vy) * rt (sq2 vx vy) := Int.mul_le_mul (by omega) (by omega) (by omega) (by omega)
      omega
    · exact c
  have hn : rtN (sq2 vx vy) 1 = rt (sq2 vx vy) := by
    unfold rtN
    have : rtUp (sq2 vx vy) 1 = false := rfl
    rw [this]
    exact Int.add_zero _
  have hf : fxB (rt (sq2 vx vy)) = true := decide_eq_true (by omega)
  have hV : lenV vx vy 1 = rt (sq2 vx vy) := by
    unfold lenV lenB fxV
    rw [ok_le hx (by omega), ok_le hy (by omega), hn, hf]; rfl
  refine ⟨?_, hV, ?_, fun hz => ?_⟩
  · unfold lenE lenB fxE
    rw [ok_le hx (by omega), ok_le hy (by omega), hn, hf]; rfl
  · rw [hV]; exact ⟨r0, hr⟩
  · rw [hV]
    rw [hz] at r0 r1
    rw [hz]
    rcases Int.lt_or_le 0 (rt 0) with c | c
    · have : 1 * 1 ≤ rt 0 * rt 0 := Int.mul_le_mul (by omega) (by omega) (by omega) (by omega)
      omega
    · omega

/-- A tick. -/
def tkB (sl n : Int) : Int := rnd 3 false (sl * (5000 - n)) 5000
def tkC (bd n sp : Int) : Int := spnV (rnd 3 false (bd * (2000 - n)) 2000) sp
noncomputable def tkVX (sl bd vx vy sp n : Int) : Int := vx - cutP (uniV vx vy vx) (tkB sl n) + cutP (-uniV vx vy vy) (cutP (tkB sl n) (tkC bd n sp))
noncomputable def tkVY (sl bd vx vy sp n : Int) : Int := vy - cutP (uniV vx vy vy) (tkB sl n) + cutP (uniV vx vy vx) (cutP (tkB sl n) (tkC bd n sp))
noncomputable def tkR (sl vx vy n : Int) : Bool := decide (lenV vx vy 1 ≤ tkB sl n)
noncomputable def tkM (sl bd ax ay vx vy sp n : Int) : Bool := movB (ax + tkVX sl bd vx vy sp n) (ay + tkVY sl bd vx vy sp n) (tkVX sl bd vx vy sp n) (tkVY sl bd vx vy sp n) sp
noncomputable def tkStep {β : Type} (sl bd ax ay vx vy sp n : Int) (r : Int → Int → Int → Int → Int → β) (z : β) : β :=
  bif tkR sl vx vy n then r ax ay 0 0 0
  else bif tkM sl bd ax ay vx vy sp n then r (ax + tkVX sl bd vx vy sp n) (ay + tkVY sl bd vx vy sp n) (tkVX sl bd vx vy sp n) (tkVY sl bd vx vy sp n) sp
  else z

theorem scl_in {a n d : Int} (ha : 0 ≤ a ∧ a ≤ 65536) (hn : 0 ≤ n ∧ n ≤ d) (hd : 0 < d) : 0 ≤ rnd 3 false (a * n) d ∧ rnd 3 false (a * n) d ≤ a := by
  have h1 : 0 ≤ a * n := Int.mul_nonneg ha.1 hn.1
  have h2 : a * n ≤ a * d := Int.mul_le_mul_of_nonneg_left hn.2 ha.1
  refine ⟨near_nn h1 hd, ?_⟩
  have := near_mono h1 h2 hd
  rwa [near_mul ha.1 hd] at this
theorem mov_iff {ax ay vx vy sp : Int} : movB ax ay vx vy sp = true ↔ ((-6553600000 ≤ ax ∧ ax ≤ 6553600000) ∧ (-6553600000 ≤ ay ∧ ay ≤ 6553600000)) ∧ ((-65536000 ≤ vx ∧ vx ≤ 65536000) ∧ (-65536000 ≤ vy ∧ vy ≤ 65536000)) ∧ (-1000 ≤ sp ∧ sp ≤ 1000) := by
  unfold movB plcB
  simp only [Bool.and_eq_true, decide_eq_true_eq]
  constructor
  · rintro ⟨⟨a, b⟩, c⟩; exact ⟨a, b, c⟩
  · rintro ⟨a, b, c⟩; exact ⟨⟨a, b⟩, c⟩
/-- What a tick needs. -/
structure TkOk (sl bd ax ay vx vy sp n : Int) : Prop where
  sl : 0 ≤ sl ∧ sl ≤ 65536
  bd : 0 ≤ bd ∧ bd ≤ 65536
  px : -6553600000 ≤ ax ∧ ax ≤ 6553600000
  py : -6553600000 ≤ ay ∧ ay ≤ 6553600000
  vx : -65536000 ≤ vx ∧ vx ≤ 65536000
  vy : -65536000 ≤ vy ∧ vy ≤ 65536000
  sp : -1000 ≤ sp ∧ sp ≤ 1000
  n : 0 ≤ n ∧ n ≤ 1000
/-- What a tick's numbers are. -/
structure TkIs (sl bd vx vy sp n : Int) : Prop where
  b : 0 ≤ tkB sl n ∧ tkB sl n ≤ 65536
  b1 : 0 ≤ rnd 3 false (bd * (2000 - n)) 2000 ∧ rnd 3 false (bd * (2000 - n)) 2000 ≤ 65536
  c : -65536 ≤ tkC bd n sp ∧ tkC bd n sp ≤ 65536
  a : -65536 ≤ cutP (tkB sl n) (tkC bd n sp) ∧ cutP (tkB sl n) (tkC bd n sp) ≤ 65536
theorem tk_is {sl bd ax ay vx vy sp n : Int} (h : TkOk sl bd ax ay vx vy sp n) : TkIs sl bd vx vy sp n := by
  have h1 := h.n
  have b := scl_in h.sl (n := 5000 - n) (d := 5000) ⟨by omega, by omega⟩ (by omega)
  have c := scl_in h.bd (n := 2000 - n) (d := 2000) ⟨by omega, by omega⟩ (by omega)
  have h2 := h.sl
  have h3 := h.bd
  have hb : 0 ≤ tkB sl n ∧ tkB sl n ≤ 65536 := by unfold tkB; omega
  have hc := (spn_in (c := rnd 3 false (bd * (2000 - n)) 2000) ⟨c.1, by omega⟩ h.sp).2
  exact ⟨hb, ⟨c.1, by omega⟩, hc, cut_in (a := tkB sl n) ⟨by omega, by omega⟩ hc⟩
theorem mi_small2 {x y u v B : Int} (hB : B ≤ 35184372088832) (hx : -B ≤ x ∧ x ≤ B) (hy : -B ≤ y ∧ y ≤ B) (hu : -B ≤ u ∧ u ≤ B) (hv : -B ≤ v ∧ v ≤ B) : miE x y u v = 0 ∧ miX x y u v = x - u ∧ miY x y u v = y - v := by
  have h : four x y u v = true := by unfold four; rw [ok_le hx (by omega), ok_le hy (by omega), ok_le hu (by omega), ok_le hv (by omega)]; rfl
  have h1 : fxB (ab (x - u)) = true := decide_eq_true (ab_le.2 ⟨by omega, by omega⟩)
  have h2 : fxB (ab (y - v)) = true := decide_eq_true (ab_le.2 ⟨by omega, by omega⟩)
  unfold miE miX miY miP two2
  rw [h, h1, h2]
  exact ⟨rfl, rfl, rfl⟩
theorem pl_small2 {x y u v B : Int} (hB : B ≤ 35184372088832) (hx : -B ≤ x ∧ x ≤ B) (hy : -B ≤ y ∧ y ≤ B) (hu : -B ≤ u ∧ u ≤ B) (hv : -B ≤ v ∧ v ≤ B) : plE x y u v = 0 ∧ plX x y u v = x + u ∧ plY x y u v = y + v := by
  have h : four x y u v = true := by unfold four; rw [ok_le hx (by omega), ok_le hy (by omega), ok_le hu (by omega), ok_le hv (by omega)]; rfl
  have h1 : fxB (ab (x + u)) = true := decide_eq_true (ab_le.2 ⟨by omega, by omega⟩)
  have h2 : fxB (ab (y + v)) = true := decide_eq_true (ab_le.2 ⟨by omega, by omega⟩)
  unfold plE plX plY plP two2
  rw [h, h1, h2]
  exact ⟨rfl, rfl, rfl⟩
theorem tk4_fin {α : Type} {ax ay sp VX VY : Int} (ha : -6553600000 ≤ ax ∧ ax ≤ 6553600000) (hb : -6553600000 ≤ ay ∧ ay ≤ 6553600000) (hx : -6553600000 ≤ VX ∧ VX ≤ 6553600000) (hy : -6553600000 ≤ VY ∧ VY ≤ 6553600000) (k : AOut → Option α) : tk4 ax ay sp VX VY k = bif movB (ax + VX) (ay + VY) VX VY sp then k (mvO (ax + VX) (ay + VY) VX VY sp) else k (glmis 4) := by
  obtain ⟨e, ex, ey⟩ := pl_small2 (B := 6553600000) (by omega) ha hb hx hy
  unfold tk4
  rw [e, ex, ey]
  cases movB (ax + VX) (ay + VY) VX VY sp <;> rfl
theorem tk3_fin {α : Type} {ax ay vx vy sp bx by' sx sy : Int} (ha : -6553600000 ≤ ax ∧ ax ≤ 6553600000) (hb : -6553600000 ≤ ay ∧ ay ≤ 6553600000) (hvx : -65536000 ≤ vx ∧ vx ≤ 65536000) (hvy : -65536000 ≤ vy ∧ vy ≤ 65536000) (h1 : -65536 ≤ bx ∧ bx ≤ 65536) (h2 : -65536 ≤ by' ∧ by' ≤ 65536) (h3 : -65536 ≤ sx ∧ sx ≤ 65536) (h4 : -65536 ≤ sy ∧ sy ≤ 65536) (k : AOut → Option α) :
    tk3 ax ay vx vy sp bx by' sx sy k = bif movB (ax + (vx - bx + sx)) (ay + (vy - by' + sy)) (vx - bx + sx) (vy - by' + sy) sp then k (mvO (ax + (vx - bx + sx)) (ay + (vy - by' + sy)) (vx - bx + sx) (vy - by' + sy) sp) else k (glmis 4) := by
  obtain ⟨e, ex, ey⟩ := mi_small2 (B := 65536000) (by omega) hvx hvy (u := bx) (v := by') ⟨by omega, by omega⟩ ⟨by omega, by omega⟩
  obtain ⟨f, fx, fy⟩ := pl_small2 (B := 65601536) (x := vx - bx) (y := vy - by') (u := sx) (v := sy) (by omega) ⟨by omega, by omega⟩ ⟨by omega, by omega⟩ ⟨by omega, by omega⟩ ⟨by omega, by omega⟩
  unfold tk3
  rw [e, ex, ey, f, fx, fy]
  exact tk4_fin ha hb ⟨by omega, by omega⟩ ⟨by omega, by omega⟩ k
theorem tk_fin {α : Type} {sl bd ax ay vx vy sp n : Int} (h : TkOk sl bd ax ay vx vy sp n) (k : AOut → Option α) : tk0 ax ay vx vy sp n 0 sl bd k = tkStep sl bd ax ay vx vy sp n (fun a b c d s => k (mvO a b c d s)) (k (glmis 4)) := by
  have g := tk_is h
  have h1 := h.n
  obtain ⟨l1, l2, l3, l4⟩ := len_down h.vx h.vy
  unfold tk0 tkStep
  rw [i64_in (5000 - n) (by omega), i64_in (2000 - n) (by omega), (sl_near h.sl (n := 5000 - n) (d := 5000) ⟨by omega, by omega⟩ ⟨by omega, by omega⟩).1, (sl_near h.sl (n := 5000 - n) (d := 5000) ⟨by omega, by omega⟩ ⟨by omega, by omega⟩).2, (sl_near h.bd (n := 2000 - n) (d := 2000) ⟨by omega, by omega⟩ ⟨by omega, by omega⟩).1, (sl_near h.bd (n := 2000 - n) (d := 2000) ⟨by omega, by omega⟩ ⟨by omega, by omega⟩).2, (sl_spin g.b1 h.sp).1, (sl_spin g.b1 h.sp).2, l1]
  simp only [BEq.rfl, cond_true]
  show (bif tkR sl vx vy n then _ else tk1 ax ay vx vy sp (tkB sl n) (tkC bd n sp) _ _ k) = _
  cases hr : tkR sl vx vy n
  · have hr' : ¬ lenV vx vy 1 ≤ tkB sl n := of_decide_eq_false hr
    have d := dir_of (ok_le h.vx (by omega)) (ok_le h.vy (by omega)) (fun hz => hr' (by rw [l4 hz]; exact g.b.1))
    have dx := d.ux; have dy := d.uy; have gb := g.b; have ga := g.a; have gc := g.c
    have cb := cut_in d.ux (b := tkB sl n) (B := 65536) ⟨by omega, by omega⟩
    have cc := cut_in d.uy (b := tkB sl n) (B := 65536) ⟨by omega, by omega⟩
    have ca := cut_in (a := -uniV vx vy vy) ⟨by omega, by omega⟩ ga
    have cd := cut_in d.ux ga
    obtain ⟨t1, t2, t3⟩ := ti_cut2 (x := uniV vx vy vx) (y := uniV vx vy vy) (b := tkB sl n) ⟨by omega, by omega⟩ ⟨by omega, by omega⟩ ⟨by omega, by omega⟩
    obtain ⟨m1, m2⟩ := mp_cut (a := tkB sl n) (b := tkC bd n sp) ⟨by omega, by omega⟩ ⟨by omega, by omega⟩
    obtain ⟨s1, s2, s3⟩ := ti_cut2 (x := -uniV vx vy vy) (y := uniV vx vy vx) (b := cutP (tkB sl n) (tkC bd n sp)) ⟨by omega, by omega⟩ ⟨by omega, by omega⟩ ⟨by omega, by omega⟩
    have o1 : okB (uniV vx vy vx) = true := ok_le d.ux (by omega)
    have o2 : okB (uniV vx vy vy) = true := ok_le d.uy (by omega)
    unfold tk1 tk2
    rw [i64_in (0 - uniV vx vy vy) (by omega), show 0 - uniV vx vy vy = -uniV vx vy vy by omega, d.e, t1, t2, t3, m1, m2, s1, s2, s3]
    simp only [List.all_cons, List.all_nil, o1, o2, Bool.and_self, BEq.rfl, cond_true, cond_false]
    exact tk3_fin h.px h.py h.vx h.vy cb cc ca cd k
  · rfl
end Go.Proofs.YtgpljldfbhkdlaaGreat

/- Glide: a tick's contract; brooms; the strength. -/
namespace Go.Proofs.YtgpljldfbhkdlaaGreat
open Go.RowKit

/-- Ice, grain, stone and strength are valid. -/
def rgtB (cx cy sd w h : Int) (pb po : List Int) (fl ke sw be we : Int) (ax ay vx vy sp : Int) (n : Int) : Bool := iceB cx cy sd w h pb po && graB fl ke sw be we && movB ax ay vx vy sp && grnB n
theorem rgt_ok (cx cy sd w h : Int) (pb po : List Int) (fl ke sw be we : Int) (ax ay vx vy sp : Int) (n : Int) (hR : rgtB cx cy sd w h pb po fl ke sw be we ax ay vx vy sp n = true) : TkOk (slwV cx cy sd w h pb po fl ke sw be we ax ay) (bdvV cx cy sd w h pb po fl ke sw be we ax ay) ax ay vx vy sp n ∧ slwE cx cy sd w h pb po fl ke sw be we ax ay = 0 := by
  unfold rgtB at hR
  rw [Bool.and_eq_true, Bool.and_eq_true, Bool.and_eq_true] at hR
  obtain ⟨⟨⟨hi, hg⟩, hm⟩, hn⟩ := hR
  obtain ⟨⟨p1, p2⟩, ⟨v1, v2⟩, s⟩ := mov_iff.1 hm
  have hp : plcB ax ay = true := (plc_iff ..).2 ⟨p1, p2⟩
  have gi := ice_is _ _ _ _ _ _ _ hi
  have gr := gra_is _ _ _ _ _ hg
  have n1 : 0 ≤ n ∧ n ≤ 1000 := by unfold grnB at hn; rwa [in_dec] at hn
  have hp1 := hgt_in gi.pg cx cy sd w h ax ay
  have ho1 := hgt_in gi.og cx cy sd w h ax ay
  refine ⟨⟨?_, ?_, p1, p2, v1, v2, s, n1⟩, ?_⟩
  · unfold slwV
    rw [hi, hg, hp]
    have := brk_in gr hp1 ho1
    have := gr.fl
    simp only [Bool.and_self, cond_true]
    omega
  · unfold bdvV
    rw [hi, hg, hp]
    exact bnd_in gr.be ho1
  · unfold slwE
    rw [hi, hg, hp]; rfl
noncomputable def gtickS : Fsp := fun _ args k => match args with
  | [.agg [.int .i64 cx, .int .i64 cy, .int .i64 sd, .int .i64 w, .int .i64 h, .ro (.int .i64) pb, .ro (.int .i64) po, .int .i64 fl, .int .i64 ke, .int .i64 sw, .int .i64 be, .int .i64 we], .agg [.int .i64 ax, .int .i64 ay, .int .i64 vx, .int .i64 vy, .int .i64 sp], .int .i64 n] => bif rgtB cx cy sd w h pb po fl ke sw be we ax ay vx vy sp n then tkStep (slwV cx cy sd w h pb po fl ke sw be we ax ay) (bdvV cx cy sd w h pb po fl ke sw be we ax ay) ax ay vx vy sp n (fun a b c d s => k (mvO a b c d s)) (k (glmis 4)) else none
  | _ => none
theorem tkStep_bind {α β : Type} (sl bd ax ay vx vy sp n : Int) (r : Int → Int → Int → Int → Int → Option α) (z : Option α) (f : α → Option β) : (tkStep sl bd ax ay vx vy sp n r z).bind f = tkStep sl bd ax ay vx vy sp n (fun a b c d s => (r a b c d s).bind f) (z.bind f) := by
  unfold tkStep
  cases tkR sl vx vy n <;> cases tkM sl bd ax ay vx vy sp n <;> rfl
theorem gtickS_ok : FspOk Tryz.prog 48 gtickS := tower_Y fsG3_ok spG_ok ⟨Tryz.func48, fun _ _ => by kernel_rfl⟩ (by intro α args k; unfold gtickS; split <;> simp only [cond_bind, tkStep_bind, Option.bind_some, Option.bind_none]) fun args out hSm hEq => by
  unfold gtickS at hEq
  split at hEq
  · rename_i cx cy sd w h pb po fl ke sw be we ax ay vx vy sp n
    cases hc : rgtB cx cy sd w h pb po fl ke sw be we ax ay vx vy sp n
    · rw [hc] at hEq; cases hEq
    · rw [hc] at hEq
      obtain ⟨t, e⟩ := rgt_ok _ _ _ _ _ _ _ _ _ _ _ _ _ _ _ _ _ _ hc
      refine ⟨8, 8, (gtick_text 8 0 AOut cx cy sd w h pb po fl ke sw be we ax ay vx vy sp n some).trans ?_⟩
      rw [e]
      exact (tk_fin t some).trans hEq
  · cases hEq
--FS fsG4 | fsG3 | gtick=(besom/glide.sheet).tick
noncomputable def fsG4 : FuncId → Option Fsp := fun g =>
  if g = 48 then some gtickS else
  fsG3 g
theorem fsG4_ok : FsOk fsG4 :=
  fs_cons gtickS_ok <|
  fsG3_ok
--END
--AT fsG4 spG twY
/-- Brooms that are valid. -/
abbrev BrI := Int × Int × Int × Unit
def brD : BrI := (0, 0, 0, ())
def brmB (b : BrI) : Bool := decide (0 ≤ b.1) && decide (b.1 ≤ b.2.1) && decide (b.2.1 ≤ 6000) && (decide (0 ≤ b.2.2.1) && decide (b.2.2.1 ≤ 1000))
def oddR (b : BrI) : Bool := !brmB b
def brsB (l : List BrI) : Bool := decide ((l.length : Int) ≤ 64) && l.all brmB
theorem any_oddR (l : List BrI) : l.any oddR = !(l.all brmB) := by
  induction l with
  | nil => rfl
  | cons b l ih =>
    simp only [List.any_cons, List.all_cons, ih]
    unfold oddR
    cases brmB b <;> rfl
def cbrT {α : Type} (l : List BrI) (N : Nat) (k : AOut → Option α) : Option α :=
  bif decide ((l.length : Int) > 64) then k (i1 2)
  else
    afterL
      (iterL N
        (fun (x : Int × PUnit) =>
          bif decide (x.1 < (l.length : Int)) then
            if 0 ≤ x.1 ∧ x.1 < (l.length : Int) then
              bif decide (0 ≤ (l.getD x.1.toNat brD).1) then
                bif !decide ((l.getD x.1.toNat brD).1 ≤ (l.getD x.1.toNat brD).2.1) then finL (bif decide (x.1 ≥ 0) then k (i1 2) else k (i1 0))
                else
                  bif decide ((l.getD x.1.toNat brD).2.1 > 6000) then finL (bif decide (x.1 ≥ 0) then k (i1 2) else k (i1 0))
                  else
                    bif decide (0 ≤ (l.getD x.1.toNat brD).2.2.1) then
                      bif !decide ((l.getD x.1.toNat brD).2.2.1 ≤ 1000) then finL (bif decide (x.1 ≥ 0) then k (i1 2) else k (i1 0))
                      else some (LRes.cont (IntKind.i64.wrap (x.1 + 1), PUnit.unit))
                    else finL (bif decide (x.1 ≥ 0) then k (i1 2) else k (i1 0))
              else finL (bif decide (x.1 ≥ 0) then k (i1 2) else k (i1 0))
            else none
          else some (LRes.brk 0 (x.1, PUnit.unit)))
        (0, PUnit.unit))
      fun (id : Nat) (_ : Int × PUnit) => if id = 0 then k (i1 0) else none
theorem gcbr_text (N n0 : Nat) (α : Type) (l : List BrI) (k : AOut → Option α) : evFn real tab ((twY fsG4 spG).env real tab N (n0 + 8)) N Tryz.f25 α [.ro (.recd (.cons (.int .i64) (.cons (.int .i64) (.cons (.int .i64) .nil)))) l] k = cbrT l N k := by kernel_rfl
theorem gcbr_nil (N n0 : Nat) (α : Type) (k : AOut → Option α) : evFn real tab ((twY fsG4 spG).env real tab (N + 1) (n0 + 8)) (N + 1) Tryz.f25 α [.nils] k = k (i1 0) := by kernel_rfl
theorem cbrT_fin {α : Type} (l : List BrI) (hl : l.length ≤ maxLen) (k : AOut → Option α) : cbrT l (l.length + 1) k = k (i1 (er2 (brsB l))) := by
  unfold cbrT brsB
  rw [gt_le]
  cases decide ((l.length : Int) ≤ 64)
  · rfl
  simp only [Bool.not_true, cond_false, Bool.true_and]
  refine (any_loop (fun i : Nat => ((i : Int), PUnit.unit)) l.length (fun i => oddR (l.getD i brD)) (b := 0) (y := ((l.length : Int), PUnit.unit)) (k (i1 2)) (fun i hi => ?_) ?_).trans ?_
  · simp only [lt_len hi, cond_true]
    rw [if_pos (in_len hi), wrap_next hi hl, Int.toNat_natCast]
    have e : decide ((i : Int) ≥ 0) = true := decide_eq_true (by omega)
    rw [e, gt_le]
    unfold oddR brmB
    cases decide (0 ≤ (l.getD i brD).1)
    · rfl
    cases decide ((l.getD i brD).1 ≤ (l.getD i brD).2.1)
    · rfl
    cases decide ((l.getD i brD).2.1 ≤ 6000)
    · rfl
    cases decide (0 ≤ (l.getD i brD).2.2.1)
    · rfl
    cases decide ((l.getD i brD).2.2.1 ≤ 1000) <;> rfl
  · simp only [not_lt_len, cond_false]
  · rw [any_rangeX l brD oddR, any_oddR]
    cases l.all brmB <;> rfl
noncomputable def gcbrS : Fsp := fun _ args k => match args with
  | [.ro (.recd (.cons (.int .i64) (.cons (.int .i64) (.cons (.int .i64) .nil)))) l] => k (i1 (er2 (brsB l)))
  | [.nils] => k (i1 0)
  | _ => none
theorem gcbrS_ok : FspOk Tryz.prog 25 gcbrS := tower_Y fsG4_ok spG_ok ⟨Tryz.func25, fun _ _ => by kernel_rfl⟩ (by intro α args k; unfold gcbrS; split <;> rfl) fun args out hSm hEq => by
  unfold gcbrS at hEq
  split at hEq
  · rename_i l
    exact ⟨l.length + 1, 8, (gcbr_text (l.length + 1) 0 AOut l some).trans ((cbrT_fin l (hSm _ (by simp)).len some).trans hEq)⟩
  · exact ⟨1, 8, (gcbr_nil 0 0 AOut some).trans hEq⟩
  · cases hEq
/-- The strength at a tick. -/
def strF (t n : Int) (b : BrI) : Int := bif decide (b.1 ≤ t) && decide (t < b.2.1) then (if n < b.2.2.1 then b.2.2.1 else n) else n
def strN (l : List BrI) (t : Int) : Int := l.foldl (strF t) 0
theorem str_next (l : List BrI) (t : Int) {i : Nat} (hi : i < l.length) : strN (l.take (i + 1)) t = strF t (strN (l.take i) t) (l.getD i brD) := by
  unfold strN
  rw [List.take_add_one, List.getElem?_eq_getElem hi, List.foldl_append, List.getD_eq_getElem?_getD, List.getElem?_eq_getElem hi]
  rfl
theorem brm_of {l : List BrI} (h : l.all brmB = true) {i : Nat} (hi : i < l.length) : brmB (l.getD i brD) = true := by
  rw [List.getD_eq_getElem?_getD, List.getElem?_eq_getElem hi]
  exact List.all_eq_true.1 h _ (List.getElem_mem hi)
theorem brm_iff {b : BrI} : brmB b = true ↔ 0 ≤ b.1 ∧ b.1 ≤ b.2.1 ∧ b.2.1 ≤ 6000 ∧ 0 ≤ b.2.2.1 ∧ b.2.2.1 ≤ 1000 := by
  unfold brmB
  simp only [Bool.and_eq_true, decide_eq_true_eq]
  constructor
  · rintro ⟨⟨⟨a, b⟩, c⟩, d, e⟩; exact ⟨a, b, c, d, e⟩
  · rintro ⟨a, b, c, d, e⟩; exact ⟨⟨⟨a, b⟩, c⟩, d, e⟩
theorem str_in {l : List BrI} (h : l.all brmB = true) (t : Int) : 0 ≤ strN l t ∧ strN l t ≤ 1000 := by
  have H : ∀ (l : List BrI), l.all brmB = true → ∀ n, 0 ≤ n ∧ n ≤ 1000 → 0 ≤ l.foldl (strF t) n ∧ l.foldl (strF t) n ≤ 1000 := by
    intro l
    induction l with
    | nil => intro _ n hn; exact hn
    | cons b l ih =>
      intro hb n hn
      rw [List.all_cons, Bool.and_eq_true] at hb
      obtain ⟨b1, b2⟩ := hb
      have b3 := brm_iff.1 b1
      refine ih b2 (strF t n b) ?_
      unfold strF
      cases decide (b.1 ≤ t) && decide (t < b.2.1)
      · exact hn
      · simp only [cond_true]
        split <;> omega
  exact H l h 0 (by omega)
def strT {α : Type} (l : List BrI) (t : Int) (N : Nat) (k : AOut → Option α) : Option α :=
  afterL
    (iterL N
      (fun (x : Int × Int × PUnit) =>
        bif decide (x.2.1 < (l.length : Int)) then
          if 0 ≤ x.2.1 ∧ x.2.1 < (l.length : Int) then
            bif decide ((l.getD x.2.1.toNat brD).1 ≤ t) then
              bif decide (t ≤ IntKind.i64.wrap ((l.getD x.2.1.toNat brD).2.1 - 1)) then
                some (LRes.cont (if x.1 < (l.getD x.2.1.toNat brD).2.2.1 then (l.getD x.2.1.toNat brD).2.2.1 else x.1, IntKind.i64.wrap (x.2.1 + 1), PUnit.unit))
              else some (LRes.cont (x.1, IntKind.i64.wrap (x.2.1 + 1), PUnit.unit))
            else some (LRes.cont (x.1, IntKind.i64.wrap (x.2.1 + 1), PUnit.unit))
          else none
        else some (LRes.brk 0 (x.1, x.2.1, PUnit.unit)))
      (0, 0, PUnit.unit))
    fun (id : Nat) (y : Int × Int × PUnit) => if id = 0 then k (i1 y.1) else none
theorem gstr_text (N n0 : Nat) (α : Type) (l : List BrI) (t : Int) (k : AOut → Option α) : evFn real tab ((twY fsG4 spG).env real tab N (n0 + 8)) N Tryz.f54 α [.ro (.recd (.cons (.int .i64) (.cons (.int .i64) (.cons (.int .i64) .nil)))) l, .int .i64 t] k = strT l t N k := by kernel_rfl
theorem gstr_nil (N n0 : Nat) (α : Type) (t : Int) (k : AOut → Option α) : evFn real tab ((twY fsG4 spG).env real tab (N + 1) (n0 + 8)) (N + 1) Tryz.f54 α [.nils, .int .i64 t] k = k (i1 0) := by kernel_rfl
theorem strT_fin {α : Type} (l : List BrI) (t : Int) (hl : l.length ≤ maxLen) (hb : l.all brmB = true) (k : AOut → Option α) : strT l t (l.length + 1) k = k (i1 (strN l t)) := by
  unfold strT
  refine (count_loop (fun i : Nat => (strN (l.take i) t, (i : Int), PUnit.unit)) l.length (b := 0) (y := (strN (l.take l.length) t, (l.length : Int), PUnit.unit)) (fun i hi => ?_) ?_ (Nat.lt_succ_self _)).trans ?_
  · simp only [lt_len hi, cond_true]
    have b3 := brm_iff.1 (brm_of hb hi)
    rw [if_pos (in_len hi), wrap_next hi hl, Int.toNat_natCast, str_next l t hi, i64_in ((l.getD i brD).2.1 - 1) (by omega)]
    have e : decide (t ≤ (l.getD i brD).2.1 - 1) = decide (t < (l.getD i brD).2.1) := by rw [decide_eq_decide]; omega
    rw [e]
    unfold strF
    cases decide ((l.getD i brD).1 ≤ t)
    · rfl
    cases decide (t < (l.getD i brD).2.1) <;> rfl
  · simp only [not_lt_len, cond_false]
  · rw [List.take_length]; rfl
noncomputable def gstrS : Fsp := fun _ args k => match args with
  | [.ro (.recd (.cons (.int .i64) (.cons (.int .i64) (.cons (.int .i64) .nil)))) l, .int .i64 t] => bif l.all brmB then k (i1 (strN l t)) else none
  | [.nils, .int .i64 t] => k (i1 0)
  | _ => none
theorem gstrS_ok : FspOk Tryz.prog 54 gstrS := tower_Y fsG4_ok spG_ok ⟨Tryz.func54, fun _ _ => by kernel_rfl⟩ (by intro α args k; unfold gstrS; split <;> simp only [cond_bind, Option.bind_some, Option.bind_none]) fun args out hSm hEq => by
  unfold gstrS at hEq
  split at hEq
  · rename_i l t
    have hEq : (bif List.all (α := BrI) l brmB then some (i1 (strN l t)) else none) = some out := hEq
    cases hb : List.all (α := BrI) l brmB
    · rw [hb] at hEq; cases hEq
    · rw [hb] at hEq
      exact ⟨l.length + 1, 8, (gstr_text (l.length + 1) 0 AOut l t some).trans ((strT_fin l t (hSm _ (by simp)).len hb some).trans hEq)⟩
  · rename_i t
    exact ⟨1, 8, (gstr_nil 0 0 AOut t some).trans hEq⟩
  · cases hEq
--FS fsG5 | fsG4 | gcbr=besom/glide.CheckBrooms;gstr=besom/glide.strength
noncomputable def fsG5 : FuncId → Option Fsp := fun g =>
  if g = 25 then some gcbrS else
  if g = 54 then some gstrS else
  fsG4 g
theorem fsG5_ok : FsOk fsG5 :=
  fs_cons gcbrS_ok <|
  fs_cons gstrS_ok <|
  fsG4_ok
--END
end Go.Proofs.YtgpljldfbhkdlaaGreat
