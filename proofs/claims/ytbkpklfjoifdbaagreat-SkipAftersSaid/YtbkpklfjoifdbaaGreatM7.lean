/- Parts of the proof, in build order. -/
import Derived.Test.YtbkpklfjoifdbaaGreatM6
import Derived.Shelf.Spec.BitsCarry
import Derived.Test.YtbkpklfjoifdbaaGreatProg
import Derived.WalkKit
import Derived.WalkSpells
import Derived.WalkLawsBesides
import Derived.Defers
import Derived.Recover
import Derived.Below
import Derived.RegionTactic
import Derived.ChangeAlike
import Derived.Outline
import Derived.Shelf.Abstract
import Derived.Lib.Hide
import Derived.StillTailTactics
namespace Go.Proofs.YtbkpklfjoifdbaaGreat
open Go.RowKit
theorem fsp_walkS {P:Program} {f:FuncId} {S:Fsp} (hn:∀ (α:Type) args (k:AOut→Option α),S α args k=(S AOut args some).bind k) (hen:∀ args w,(callFunc f args).run P w=.ok (.enter f args) w)
  (h:∀ args out,S AOut args some=some out→args.all AVal.p1=true∧out.plain=true∧∀ w,Calls P f (args.map AVal.v1).toArray w fun e w'=>e=out.ending∧Below w.heap.size w w'):FspOk P f S where
 enter:=hen
 nat:=hn
 calls:=fun args out hout M w cargs hM hl hr=>by
  obtain ⟨h1,h2,h3⟩:=h args out hout
  rw [reps_p1 hl hr h1]
  refine (h3 w).mono ?_
  rintro e w' ⟨rfl,hb⟩
  refine ⟨M,fun _ h=>h,fun _ h=>.inl h,fun b h=>Nat.lt_of_lt_of_le (hM b h) hb.size,hb,?_⟩
  cases out with
  | ret v=>exact ⟨_,rfl,rep_v2 h2⟩
  | pan v=>exact ⟨_,rfl,rep_v2 h2⟩
def wB (x:Int):Bool:=decide (0≤x)&&decide (x < 18446744073709551616)
theorem wB_iff {x:Int}:wB x=true↔Word x:=by simp [wB,Word]
def mul64S:Fsp:=fun _ args k=>match args with
 | [.int .u64 x,.int .u64 y]=>bif wB x&&wB y then k (.ret (.tup [uN (hiW (x * y)),uN (loW (x * y))])) else none
 | _=>none
theorem mul64S_ok:FspOk Tryz.prog 87 mul64S:=fsp_walkS (by intro α args k; unfold mul64S; split<;>simp only [cond_bind,Option.bind_some,Option.bind_none]) (fun args w=>by kernel_rfl) fun args out h=>by
 unfold mul64S at h
 split at h
 ·rename_i x y
  cases hw:wB x&&wB y
  ·rw [hw] at h; cases h
  ·rw [hw] at h; cases h
   simp only [Bool.and_eq_true,wB_iff] at hw
   refine ⟨rfl,rfl,fun w=>(mul64 x y hw.1 hw.2 w).mono ?_⟩
   rintro e w' ⟨rfl,rfl⟩
   exact ⟨rfl,Below.refl _ _⟩
 ·cases h
def prodS:Fsp:=fun _ args k=>match args with
 | [.int .u64 x,.int .u64 y]=>bif wB x&&wB y then k (.ret (.agg [uN (hiW (x * y)),uN (loW (x * y))])) else none
 | _=>none
theorem prodS_ok:FspOk Tryz.prog 44 prodS:=fsp_walkS (by intro α args k; unfold prodS; split<;>simp only [cond_bind,Option.bind_some,Option.bind_none]) (fun args w=>by kernel_rfl) fun args out h=>by
 unfold prodS at h
 split at h
 ·rename_i x y
  cases hw:wB x&&wB y
  ·rw [hw] at h; cases h
  ·rw [hw] at h; cases h
   simp only [Bool.and_eq_true,wB_iff] at hw
   refine ⟨rfl,rfl,fun w=>(product_c x y w hw.1 hw.2).mono ?_⟩
   rintro e w' ⟨rfl,hb⟩
   exact ⟨rfl,hb⟩
 ·cases h
def cmpWS:Fsp:=fun _ args k=>match args with
 | [.agg [.int .u64 a,.int .u64 b],.agg [.int .u64 c,.int .u64 d]]=>k (.ret (.int .i64 (orI (cmpI a c) (cmpI b d))))
 | _=>none
theorem cmpWS_ok:FspOk Tryz.prog 85 cmpWS:=fsp_walkS (by intro α args k; unfold cmpWS; split<;>rfl) (fun args w=>by kernel_rfl) fun args out h=>by
 unfold cmpWS at h
 split at h
 ·rename_i a b c d
  cases h
  refine ⟨rfl,rfl,fun w=>(wcompare_c a b c d w).mono ?_⟩
  rintro e w' ⟨rfl,hb⟩
  exact ⟨rfl,hb⟩
 ·cases h
def overS:Fsp:=fun _ args k=>match args with
 | [.agg [.int .u64 h,.int .u64 l],.int .u64 d]=>bif wB h&&wB l&&wB d then (bif decide (d≤h) then k (.ret (.tup [uN 0,uN 0,bN false])) else k (.ret (.tup [uN (quoI h l d),uN (remI h l d),bN true]))) else none
 | _=>none
theorem overS_ok:FspOk Tryz.prog 169 overS:=fsp_walkS (by intro α args k; unfold overS; split<;>simp only [cond_bind,Option.bind_some,Option.bind_none]) (fun args w=>by kernel_rfl) fun args out h=>by
 unfold overS at h
 split at h
 ·rename_i x y d
  cases hw:wB x&&wB y&&wB d
  ·rw [hw] at h; cases h
  ·rw [hw] at h
   simp only [Bool.and_eq_true,wB_iff] at hw
   by_cases hd:d≤x
   ·rw [decide_eq_true hd] at h; cases h
    refine ⟨rfl,rfl,fun w=>(over_no x y d w hd).mono ?_⟩
    rintro e w' ⟨rfl,hb⟩
    exact ⟨rfl,hb⟩
   ·rw [decide_eq_false hd] at h; cases h
    refine ⟨rfl,rfl,fun w=>(over_yes x y d w hw.1.1.1 hw.1.2 hw.2.2 (by omega)).mono ?_⟩
    rintro e w' ⟨rfl,hb⟩
    exact ⟨rfl,hb⟩
 ·cases h
def add64E:Fsp:=fun _ args k=>match args with
 | [.int .u64 x,.int .u64 y,.int .u64 c]=>bif wB x&&wB y&&(decide (0≤c)&&decide (c≤1)) then k (.ret (.tup [uN ((x + y + c) % 18446744073709551616),uN ((x + y + c) / 18446744073709551616)])) else none
 | _=>none
theorem add64E_at (cv:Cv) (h:CvOk Tryz.prog cv) (caps:List AVal):CvAt Tryz.prog (extS add64E cv) (.fn 209 caps):=ext_at (by intro α args k; unfold add64E; split<;>simp only [cond_bind,Option.bind_some,Option.bind_none]) (fun args r h=>by
 unfold add64E at h
 split at h
 ·rename_i x y c
  cases hw:wB x&&wB y&&(decide (0≤c)&&decide (c≤1))
  ·rw [hw] at h; cases h
  ·rw [hw] at h; cases h
   simp only [Bool.and_eq_true,wB_iff,decide_eq_true_eq] at hw
   exact ⟨_,rfl,⟨_,rfl,fun f cs=>by simp⟩,rfl,rfl,fun w=>add64 x y c hw.1.1.1 hw.1.2.1 hw.2.1 hw.2.2 w⟩
 ·cases h) cv h caps
noncomputable def spA:FuncId→Option (Cv→Cv):=fun g=>if g=209 then some (extS add64E) else
 none
theorem spA_ok:SpOk spA:=sp_cons add64E_at <|
 sp_nil
def fsA:FuncId→Option Fsp:=fun g=>if g=87 then some mul64S else
 if g=44 then some prodS else
 if g=85 then some cmpWS else
 if g=169 then some overS else
 none
theorem fsA_ok:FsOk fsA:=fs_cons mul64S_ok <|
 fs_cons prodS_ok <|
 fs_cons cmpWS_ok <|
 fs_cons overS_ok <|
 fs_nil
theorem i64w (n:Int) (h:-9223372036854775808≤n∧n≤9223372036854775807):IntKind.i64.wrap n=n:=by rw [IntKind.wrap_i64]; omega
theorem u64w (n:Int) (h:0≤n∧n≤18446744073709551615):IntKind.u64.wrap n=n:=by rw [IntKind.wrap_u64]; omega
def vw (h l:Int):Int:=h * 18446744073709551616 + l
theorem vw_hl (n:Int):vw (hiW n) (loW n)=n:=hiW_loW n
def i6 (x:Int):Bool:=decide (-9223372036854775808≤x)&&decide (x≤9223372036854775807)
theorem i6_iff {x:Int}:i6 x=true↔-9223372036854775808≤x∧x≤9223372036854775807:=by simp [i6]
theorem i6_ok {x:Int} (h:okB x=true):i6 x=true:=by rw [ok_iff] at h; rw [i6_iff]; omega
theorem wB_ab {x:Int} (h:i6 x=true):wB (ab x)=true:=by rw [i6_iff] at h; rw [wB_iff]; unfold Word ab; split<;>omega
theorem hi_wB {n:Int} (h:0≤n∧n < 340282366920938463463374607431768211456):wB (hiW n)=true:=wB_iff.2 (hiW_word h.1 h.2)
theorem lo_wB (n:Int):wB (loW n)=true:=wB_iff.2 (loW_word n)
def sizeS:Fsp:=fun _ args k=>match args with
 | [.int .i64 x]=>bif i6 x then k (.ret (.int .u64 (ab x))) else none
 | _=>none
theorem size_plain {α:Type} (x:Int) (hx:i6 x=true) (k:AOut→Option α):(bif decide (x < 0) then k (AOut.ret (AVal.int IntKind.u64 (IntKind.u64.wrap (0 - IntKind.u64.wrap x)))) else k (AOut.ret (AVal.int IntKind.u64 (IntKind.u64.wrap x))))=k (.ret (.int .u64 (ab x))):=by
 rw [i6_iff] at hx
 unfold ab
 by_cases h:x < 0
 ·rw [decide_eq_true h,if_pos h,cond_true,IntKind.wrap_u64,IntKind.wrap_u64]
  congr 3; omega
 ·rw [decide_eq_false h,if_neg h,cond_false,u64w _ (by omega)]
theorem size_text (N n:Nat) (α:Type) (x:Int) (k:AOut→Option α):evFn real tab ((twT fsA spA).env real tab N n) N Tryz.f131 α [iN x] k =
 bif decide (x < 0) then k (AOut.ret (AVal.int IntKind.u64 (IntKind.u64.wrap (0 - IntKind.u64.wrap x)))) else k (AOut.ret (AVal.int IntKind.u64 (IntKind.u64.wrap x))):=by
 kernel_rfl
theorem sizeS_ok:FspOk Tryz.prog 131 sizeS:=tower_S fsA_ok spA_ok ⟨Tryz.func131,fun _ _=>by kernel_rfl⟩ (by intro α args k; unfold sizeS; split<;>simp only [cond_bind,Option.bind_some,Option.bind_none]) fun args out hs h=>by
 unfold sizeS at h
 split at h
 ·rename_i x
  cases hx:i6 x
  ·rw [hx] at h; cases h
  ·rw [hx] at h; exact ⟨1,1,(size_text 1 1 AOut x some).trans ((size_plain x hx some).trans h)⟩
 ·cases h
theorem isize_text (N n:Nat) (α:Type) (x:Int) (k:AOut→Option α):evFn real tab ((twT fsA spA).env real tab N n) N Tryz.f132 α [iN x] k =
 bif decide (x < 0) then k (AOut.ret (AVal.int IntKind.u64 (IntKind.u64.wrap (0 - IntKind.u64.wrap x)))) else k (AOut.ret (AVal.int IntKind.u64 (IntKind.u64.wrap x))):=by
 kernel_rfl
theorem isizeS_ok:FspOk Tryz.prog 132 sizeS:=tower_S fsA_ok spA_ok ⟨Tryz.func132,fun _ _=>by kernel_rfl⟩ (by intro α args k; unfold sizeS; split<;>simp only [cond_bind,Option.bind_some,Option.bind_none]) fun args out hs h=>by
 unfold sizeS at h
 split at h
 ·rename_i x
  cases hx:i6 x
  ·rw [hx] at h; cases h
  ·rw [hx] at h; exact ⟨1,1,(isize_text 1 1 AOut x some).trans ((size_plain x hx some).trans h)⟩
 ·cases h
def signedS:Fsp:=fun _ args k=>match args with
 | [.int .u64 n,.bool neg]=>bif wB n then (bif fxB n then k (i1 (sg neg n)) else k (mis fxm 4)) else none
 | _=>none
theorem signed_fin {n:Int} (neg:Bool) (h0:0≤n) (h1:n≤70368744177664) {α:Type} (k:AOut→Option α):(bif neg then k (AOut.ret (AVal.int IntKind.i64 (IntKind.i64.wrap (0 - IntKind.i64.wrap n)))) else k (AOut.ret (AVal.int IntKind.i64 (IntKind.i64.wrap n))))=k (i1 (sg neg n)):=by
 cases neg
 ·rw [cond_false,i64w _ (by omega)]; rfl
 ·rw [cond_true,i64w n (by omega),i64w _ (by omega),Int.zero_sub]; rfl
theorem signed_text (N n:Nat) (α:Type) (x:Int) (b:Bool) (k:AOut→Option α):evFn real tab ((twT fsA spA).env real tab N (n + 1)) N Tryz.f86 α [uN x,.bool b] k =
 bif !decide (x≤70368744177664) then k (mis fxm 4) else bif b then k (AOut.ret (AVal.int IntKind.i64 (IntKind.i64.wrap (0 - IntKind.i64.wrap x)))) else k (AOut.ret (AVal.int
 IntKind.i64 (IntKind.i64.wrap x))):=by kernel_rfl
theorem signedS_ok:FspOk Tryz.prog 86 signedS:=tower_S fsA_ok spA_ok ⟨Tryz.func86,fun _ _=>by kernel_rfl⟩ (by intro α args k; unfold signedS; split<;>simp only [cond_bind,Option.bind_some,Option.bind_none]) fun args out hs h=>by
 unfold signedS at h
 split at h
 ·rename_i x b
  cases hx:wB x
  ·rw [hx] at h; cases h
  ·rw [hx] at h
   rw [wB_iff] at hx
   refine ⟨1,2,(signed_text 1 1 AOut x b some).trans ?_⟩
   rw [cond_true] at h
   rw [← h]
   unfold fxB
   by_cases hd:x≤70368744177664
   ·rw [decide_eq_true hd,Bool.not_true,cond_false,cond_true,signed_fin b hx.1 hd]
   ·rw [decide_eq_false hd,Bool.not_false,cond_false,cond_true]
 ·cases h
def rightS:Fsp:=fun _ args k=>match args with
 | [.ro (.int .i64) xs]=>bif List.all (α:=Int) xs okB then k t0 else k (mis fxm 2)
 | _=>none
theorem right_text (N n:Nat) (α:Type) (x:List Int) (k:AOut→Option α):evFn real tab ((twT fsA spA).env real tab N (n + 1)) N Tryz.f40 α [.ro (.int .i64) x] k =
 afterL (iterL N (fun y:Int × Unit=>bif decide (y.1 < (x.length:Int)) then if 0≤y.1∧y.1 < (x.length:Int) then bif decide (x.getD y.1.toNat (Int.ofNat 0) ≥
 -70368744177664) then bif !decide (x.getD y.1.toNat (Int.ofNat 0)≤70368744177664) then finL (k (mis fxm 2)) else some (LRes.cont (IntKind.i64.wrap (y.1 + 1),())) else finL (k
 (mis fxm 2)) else none else some (LRes.brk 0 (y.1,()))) (0,())) fun id _=>if id=0 then k (AOut.ret (AVal.tup [])) else none:=by kernel_rfl
theorem right_plain {α:Type} (x:List Int) (hl:x.length≤maxLen) (k:AOut→Option α):evFn real tab ((twT fsA spA).env real tab (x.length + 1) 2) (x.length + 1) Tryz.f40 α [.ro (.int .i64) x] k=bif x.all okB then k t0 else k (mis fxm 2):=by
 rw [right_text]
 generalize hf:(fun y:Int × Unit=>(_:Option (LRes (Int × Unit) α)))=f
 have e:iterL (x.length + 1) f (0,())=bif (List.range x.length).any (fun i=>!okB (x.getD i 0)) then finL (k (mis fxm 2)) else some (.brk 0 ((x.length:Int),())):=by
  refine iterL_any (f:=f) (fun i:Nat=>((i:Int),())) _ (fin_not _) (brk_not _ _) x.length (fun i hi=>?_) ?_
  ·rw [← hf]
   have h1:decide ((i:Int) < (x.length:Int))=true:=decide_eq_true (by omega)
   have h2:IntKind.i64.wrap ((i:Int) + 1)=((i + 1:Nat):Int):=wrap_small (n:=i + 1) (by omega)
   simp only [h1,cond_true,h2,show Int.ofNat 0=0 from rfl,show ((i:Int)).toNat=i from rfl]
   rw [if_pos ⟨by omega,by omega⟩]
   unfold okB
   by_cases a:-70368744177664≤x.getD i 0
   ·rw [decide_eq_true a]
    cases decide (x.getD i 0≤70368744177664)<;>rfl
   ·rw [decide_eq_false a]; rfl
  ·rw [← hf]
   have h1:decide ((x.length:Int) < (x.length:Int))=false:=decide_eq_false (by omega)
   simp only [h1,cond_false]
 rw [e,any_range x fun n=>!okB n]
 have:x.any (fun n=>!okB n)=!x.all okB:=by rw [List.not_all_eq_any_not]
 rw [this]
 cases x.all okB
 ·simp only [Bool.not_false,cond_true,cond_false]
  cases k (mis fxm 2)<;>rfl
 ·rfl
theorem rightS_ok:FspOk Tryz.prog 40 rightS:=tower_S fsA_ok spA_ok ⟨Tryz.func40,fun _ _=>by kernel_rfl⟩ (by intro α args k; unfold rightS; split<;>simp only [cond_bind,Option.bind_some,Option.bind_none]) fun args out hs h=>by
 unfold rightS at h
 split at h
 ·rename_i x
  exact ⟨_,2,(right_plain x (hs _ (by simp)).len some).trans h⟩
 ·cases h
def plusS:Fsp:=fun _ args k=>match args with
 | [.agg [.int .u64 a,.int .u64 b],.agg [.int .u64 c,.int .u64 d]]=>bif wB a&&wB b&&wB c&&wB d&&decide (vw a b + vw c d < 340282366920938463463374607431768211456) then k (.ret (.agg [uN (hiW (vw a b + vw c d)),uN (loW (vw a b + vw c d))])) else none
 | _=>none
theorem plus_text (N n:Nat) (α:Type) (a b c d:Int) (k:AOut→Option α):evFn real tab ((twT fsA spA).env real tab N (n + 1)) N Tryz.f170 α [.agg [uN a,uN b],.agg [uN c,uN d]] k =
 bif wB b&&wB d&&(decide ((0:Int)≤0)&&decide ((0:Int)≤1)) then bif wB a&&wB c&&(decide (0≤(b + d + 0) / 18446744073709551616)&&decide ((b + d + 0) /
 18446744073709551616≤1)) then k (AOut.ret (AVal.agg [AVal.int IntKind.u64 ((a + c + (b + d + 0) / 18446744073709551616) % 18446744073709551616),AVal.int IntKind.u64 ((b + d + 0)
 % 18446744073709551616)])) else none else none:=by kernel_rfl
theorem plusS_ok:FspOk Tryz.prog 170 plusS:=tower_S fsA_ok spA_ok ⟨Tryz.func170,fun _ _=>by kernel_rfl⟩ (by intro α args k; unfold plusS; split<;>simp only [cond_bind,Option.bind_some,Option.bind_none]) fun args out hs h=>by
 unfold plusS at h
 split at h
 ·rename_i a b c d
  cases hx:wB a&&wB b&&wB c&&wB d&&decide (vw a b + vw c d < 340282366920938463463374607431768211456)
  ·rw [hx] at h; cases h
  ·rw [hx,cond_true] at h
   refine ⟨1,2,(plus_text 1 1 AOut a b c d some).trans (Eq.trans ?_ h)⟩
   simp only [Bool.and_eq_true,decide_eq_true_eq] at hx
   obtain ⟨⟨⟨⟨h1,h2⟩,h3⟩,h4⟩,h5⟩:=hx
   rw [h1,h2,h3,h4]
   rw [wB_iff] at h1 h2 h3 h4
   unfold Word at h1 h2 h3 h4
   unfold vw at h5
   rw [decide_eq_true (show (0:Int)≤(b + d + 0) / 18446744073709551616 by omega),decide_eq_true (show (b + d + 0) / 18446744073709551616≤1 by omega)]
   have e1:(a + c + (b + d + 0) / 18446744073709551616) % 18446744073709551616=hiW (vw a b + vw c d):=by unfold hiW vw; omega
   have e2:(b + d + 0) % 18446744073709551616=loW (vw a b + vw c d):=by unfold loW vw; omega
   rw [e1,e2]
   rfl
 ·cases h
theorem cmp_vw {a b c d:Int} (hb:Word b) (hd:Word d):orI (cmpI a c) (cmpI b d)=cmp3 (vw a b) (vw c d):=by
 unfold Word at hb hd
 unfold orI cmpI cmp3 vw
 repeat' split
 all_goals omega
def cmpVS:Fsp:=fun _ args k=>match args with
 | [.agg [.int .u64 a,.int .u64 b],.agg [.int .u64 c,.int .u64 d]]=>bif wB b&&wB d then k (.ret (.int .i64 (cmp3 (vw a b) (vw c d)))) else none
 | _=>none
theorem cmpVS_ok:FspOk Tryz.prog 85 cmpVS where
 enter:=cmpWS_ok.enter
 nat:=by intro α args k; unfold cmpVS; split<;>simp only [cond_bind,Option.bind_some,Option.bind_none]
 calls:=fun args out h=>cmpWS_ok.calls args out (by
  unfold cmpVS at h
  split at h
  ·rename_i a b c d
   cases hx:wB b&&wB d
   ·rw [hx] at h; cases h
   ·rw [hx] at h; cases h
    simp only [Bool.and_eq_true,wB_iff] at hx
    simp only [cmpWS,cmp_vw hx.1 hx.2]
  ·cases h)
def howOf (g:Nat):Option Int:=
 if g=79 then some 0 else
 if g=80 then some 1 else
 if g=81 then some 2 else
 if g=82 then some 3 else
 none
def fsB:FuncId→Option Fsp:=fun g=>
 if g=131 then some sizeS else
 if g=132 then some sizeS else
 if g=86 then some signedS else
 if g=40 then some rightS else
 if g=170 then some plusS else
 if g=85 then some cmpVS else fsA g
theorem fsB_ok:FsOk fsB:=
 fs_cons sizeS_ok <|
 fs_cons isizeS_ok <|
 fs_cons signedS_ok <|
 fs_cons rightS_ok <|
 fs_cons plusS_ok <|
 fs_cons cmpVS_ok <|
 fsA_ok
def rndP (how:Int) (neg:Bool) (n d:Int):Int:=bif decide (n / d < 18446744073709551616) then rnd how neg n d % 18446744073709551616 else 18446744073709551616
def fitK {α:Type} (neg:Bool) (n:Int) (k:AOut→Option α):Option α:=bif fxB n then k (i1 (sg neg n)) else k (mis fxm 4)
def qEnd {α:Type} (q:Int) (neg:Bool) (k:AOut→Option α):Option α:=bif wB q then fitK neg q k else none
theorem fitK_bind {α β:Type} (neg:Bool) (n:Int) (k:AOut→Option α) (K:α→Option β):(fitK neg n k).bind K=fitK neg n fun o=>(k o).bind K:=by unfold fitK; rw [cond_bind]
def quotS:Fsp:=fun _ args k=>match args with
 | [.agg [.int .u64 h,.int .u64 l],.int .u64 d,.bool neg,.fn g []]=>
   match howOf g with
   | some how=>bif wB h&&wB l&&wB d&&decide (0 < d) then fitK neg (rndP how neg (vw h l) d) k else none
   | none=>none
 | _=>none
theorem qEnd_of {α:Type} {q:Int} (neg:Bool) (k:AOut→Option α) (h:0≤q∧q < 18446744073709551616):qEnd q neg k=fitK neg q k:=by
 unfold qEnd
 rw [wB_iff.2 h,cond_true]
theorem rem_mod {h l d:Int}:remI h l d=vw h l % d:=rfl
theorem quot_big {how:Int} {neg:Bool} {h l d:Int} (h0:0 < d) (hl:Word l) (hd:d≤h) {α:Type} (k:AOut→Option α):fitK neg (rndP how neg (vw h l) d) k=k (mis fxm 4):=by
 have:¬ vw h l / d < 18446744073709551616:=by
  have e:18446744073709551616 * d≤vw h l:=by unfold vw; unfold Word at hl; omega
  have:=Int.le_ediv_of_mul_le h0 e
  omega
 unfold rndP
 rw [decide_eq_false this]
 rfl
theorem quot_small {how:Int} {neg:Bool} {h l d:Int} (hh:Word h) (hl:Word l) (hd:h < d) {b:Bool} (hb:up1 how neg (remI h l d) d=b):rndP how neg (vw h l) d=(quoI h l d + bif b then 1 else 0) % 18446744073709551616∧0≤quoI h l d∧quoI h l d < 18446744073709551616:=by
 unfold Word at hh hl
 have h1:vw h l / d < 18446744073709551616:=by
  refine Int.ediv_lt_of_lt_mul (by omega) ?_
  unfold vw
  have:(h + 1) * 18446744073709551616≤d * 18446744073709551616:=Int.mul_le_mul_of_nonneg_right (by omega) (by omega)
  rw [Int.mul_comm 18446744073709551616]
  omega
 have h2:0≤vw h l / d:=Int.ediv_nonneg (by unfold vw; omega) (by omega)
 refine ⟨?_,h2,h1⟩
 unfold rndP rnd
 rw [decide_eq_true h1,cond_true,← rem_mod,hb]
 rfl
theorem quot_up {α:Type} {q:Int} (neg b:Bool) (k:AOut→Option α) (h:0≤q∧q < 18446744073709551616):(bif b then qEnd (IntKind.u64.wrap (q + 1)) neg k else qEnd q neg k)=fitK neg ((q + bif b then 1 else 0) % 18446744073709551616) k:=by
 cases b
 ·rw [cond_false,cond_false,qEnd_of _ _ h,Int.add_zero,show q % 18446744073709551616=q by omega]
 ·rw [cond_true,cond_true,IntKind.wrap_u64,qEnd_of _ _ (by omega)]
theorem quot_plain {α:Type} {h l d:Int} {neg:Bool} {how:Int} (hx:(wB h&&wB l&&wB d&&decide (0 < d))=true) (m:Bool) (hm:0 < remI h l d→up1 how neg (remI h l d) d=m) (k:AOut→Option α) (M:Option α)
  (hM:M=bif m then qEnd (IntKind.u64.wrap (quoI h l d + 1)) neg k else qEnd (quoI h l d) neg k) :
  (bif wB h&&wB l&&wB d then
   bif decide (d≤h) then k (mis fxm 4)
   else
    bif decide (remI h l d > 0) then
     bif wB 0&&wB (remI h l d)&&wB 0&&wB (remI h l d)&&decide (vw 0 (remI h l d) + vw 0 (remI h l d) < 340282366920938463463374607431768211456) then
      bif wB (loW (vw 0 (remI h l d) + vw 0 (remI h l d)))&&wB d then M
      else none
     else none
    else qEnd (quoI h l d) neg k
  else none)=fitK neg (rndP how neg (vw h l) d) k:=by
 simp only [Bool.and_eq_true,decide_eq_true_eq] at hx
 obtain ⟨⟨⟨h1,h2⟩,h3⟩,h4⟩:=hx
 rw [h1,h2,h3]
 rw [wB_iff] at h1 h2 h3
 simp only [Bool.and_self,cond_true]
 by_cases hd:d≤h
 ·rw [decide_eq_true hd,cond_true,quot_big h4 h2 hd]
 ·rw [decide_eq_false hd,cond_false]
  have r0:=Int.emod_nonneg (vw h l) (show d≠0 by omega)
  have r1:=Int.emod_lt_of_pos (vw h l) h4
  rw [← rem_mod] at r0 r1
  by_cases hr:0 < remI h l d
  ·have hw:wB (remI h l d)=true:=wB_iff.2 (by unfold Word at *; omega)
   rw [decide_eq_true (show remI h l d > 0 from hr),cond_true,hw,wB_iff.2 (show Word 0 by unfold Word; omega),decide_eq_true (show vw 0 (remI h l d) + vw 0 (remI h l d) < 340282366920938463463374607431768211456 by unfold vw; unfold Word at h3; omega),lo_wB]
   simp only [Bool.and_self,cond_true,hM]
   obtain ⟨e1,e2⟩:=quot_small (neg:=neg) h1 h2 (by omega) (hm hr)
   rw [quot_up _ _ _ e2,e1]
  ·rw [decide_eq_false (show ¬ remI h l d > 0 from hr),cond_false]
   have hu:up1 how neg (remI h l d) d=false:=by unfold up1; rw [decide_eq_false hr]; rfl
   obtain ⟨e1,e2⟩:=quot_small (neg:=neg) h1 h2 (by omega) hu
   rw [qEnd_of _ _ e2,e1,cond_false,Int.add_zero,show quoI h l d % 18446744073709551616=quoI h l d by omega]
theorem quot0_text (N n:Nat) (α:Type) (h l d:Int) (neg:Bool) (k:AOut→Option α):evFn real tab ((twT fsB spA).env real tab N (n + 2)) N Tryz.f130 α [.agg [uN h,uN l],uN d,.bool neg,.fn 79 []] k =
 bif wB h&&wB l&&wB d then bif decide (d≤h) then k (mis fxm 4) else bif decide (remI h l d > 0) then bif wB 0&&wB (remI h l d)&&wB 0&&wB (remI h l d)&&decide (vw 0
 (remI h l d) + vw 0 (remI h l d) < 340282366920938463463374607431768211456) then bif wB (loW (vw 0 (remI h l d) + vw 0 (remI h l d)))&&wB d then qEnd (quoI h l d) neg k else none
 else none else qEnd (quoI h l d) neg k else none:=by kernel_rfl
theorem quot0_plain (N n:Nat) (α:Type) (h l d:Int) (neg:Bool) (hx:(wB h&&wB l&&wB d&&decide (0 < d))=true) (k:AOut→Option α):evFn real tab ((twT fsB spA).env real tab N (n + 2)) N Tryz.f130 α [.agg [uN h,uN l],uN d,.bool neg,.fn 79 []] k=fitK neg (rndP 0 neg (vw h l) d) k:=
 (quot0_text N n α h l d neg k).trans (quot_plain hx (false) (fun hr=>by unfold up1; rw [decide_eq_true hr]; rfl) k _ rfl)
theorem quot1_text (N n:Nat) (α:Type) (h l d:Int) (neg:Bool) (k:AOut→Option α):evFn real tab ((twT fsB spA).env real tab N (n + 2)) N Tryz.f130 α [.agg [uN h,uN l],uN d,.bool neg,.fn 80 []] k =
 bif wB h&&wB l&&wB d then bif decide (d≤h) then k (mis fxm 4) else bif decide (remI h l d > 0) then bif wB 0&&wB (remI h l d)&&wB 0&&wB (remI h l d)&&decide (vw 0
 (remI h l d) + vw 0 (remI h l d) < 340282366920938463463374607431768211456) then bif wB (loW (vw 0 (remI h l d) + vw 0 (remI h l d)))&&wB d then bif neg then qEnd
 (IntKind.u64.wrap (quoI h l d + 1)) neg k else qEnd (quoI h l d) neg k else none else none else qEnd (quoI h l d) neg k else none:=by kernel_rfl
theorem quot1_plain (N n:Nat) (α:Type) (h l d:Int) (neg:Bool) (hx:(wB h&&wB l&&wB d&&decide (0 < d))=true) (k:AOut→Option α):evFn real tab ((twT fsB spA).env real tab N (n + 2)) N Tryz.f130 α [.agg [uN h,uN l],uN d,.bool neg,.fn 80 []] k=fitK neg (rndP 1 neg (vw h l) d) k:=
 (quot1_text N n α h l d neg k).trans (quot_plain hx (neg) (fun hr=>by unfold up1; rw [decide_eq_true hr]; rfl) k _ rfl)
theorem quot2_text (N n:Nat) (α:Type) (h l d:Int) (neg:Bool) (k:AOut→Option α):evFn real tab ((twT fsB spA).env real tab N (n + 2)) N Tryz.f130 α [.agg [uN h,uN l],uN d,.bool neg,.fn 81 []] k =
 bif wB h&&wB l&&wB d then bif decide (d≤h) then k (mis fxm 4) else bif decide (remI h l d > 0) then bif wB 0&&wB (remI h l d)&&wB 0&&wB (remI h l d)&&decide (vw 0
 (remI h l d) + vw 0 (remI h l d) < 340282366920938463463374607431768211456) then bif wB (loW (vw 0 (remI h l d) + vw 0 (remI h l d)))&&wB d then bif !neg then qEnd
 (IntKind.u64.wrap (quoI h l d + 1)) neg k else qEnd (quoI h l d) neg k else none else none else qEnd (quoI h l d) neg k else none:=by kernel_rfl
theorem quot2_plain (N n:Nat) (α:Type) (h l d:Int) (neg:Bool) (hx:(wB h&&wB l&&wB d&&decide (0 < d))=true) (k:AOut→Option α):evFn real tab ((twT fsB spA).env real tab N (n + 2)) N Tryz.f130 α [.agg [uN h,uN l],uN d,.bool neg,.fn 81 []] k=fitK neg (rndP 2 neg (vw h l) d) k:=
 (quot2_text N n α h l d neg k).trans (quot_plain hx (!neg) (fun hr=>by unfold up1; rw [decide_eq_true hr]; rfl) k _ rfl)
theorem quot3_text (N n:Nat) (α:Type) (h l d:Int) (neg:Bool) (k:AOut→Option α):evFn real tab ((twT fsB spA).env real tab N (n + 2)) N Tryz.f130 α [.agg [uN h,uN l],uN d,.bool neg,.fn 82 []] k =
 bif wB h&&wB l&&wB d then bif decide (d≤h) then k (mis fxm 4) else bif decide (remI h l d > 0) then bif wB 0&&wB (remI h l d)&&wB 0&&wB (remI h l d)&&decide (vw 0
 (remI h l d) + vw 0 (remI h l d) < 340282366920938463463374607431768211456) then bif wB (loW (vw 0 (remI h l d) + vw 0 (remI h l d)))&&wB d then bif decide (cmp3 (vw (hiW (vw 0
 (remI h l d) + vw 0 (remI h l d))) (loW (vw 0 (remI h l d) + vw 0 (remI h l d)))) (vw 0 d) ≥ 0) then qEnd (IntKind.u64.wrap (quoI h l d + 1)) neg k else qEnd (quoI h l d) neg k else
 none else none else qEnd (quoI h l d) neg k else none:=by kernel_rfl
theorem quot3_plain (N n:Nat) (α:Type) (h l d:Int) (neg:Bool) (hx:(wB h&&wB l&&wB d&&decide (0 < d))=true) (k:AOut→Option α):evFn real tab ((twT fsB spA).env real tab N (n + 2)) N Tryz.f130 α [.agg [uN h,uN l],uN d,.bool neg,.fn 82 []] k=fitK neg (rndP 3 neg (vw h l) d) k:=
 (quot3_text N n α h l d neg k).trans (quot_plain hx (decide (cmp3 (vw (hiW (vw 0 (remI h l d) + vw 0 (remI h l d))) (loW (vw 0 (remI h l d) + vw 0 (remI h l d)))) (vw 0 d) ≥ 0)) (fun hr=>by
  unfold up1; rw [decide_eq_true hr,vw_hl]
  show decide (d≤remI h l d + remI h l d)=_
  rw [decide_eq_decide]; unfold cmp3 vw; repeat' split
  all_goals omega) k _ rfl)
theorem how_cases {g:Nat} {how:Int} (h:howOf g=some how):False
 ∨ (g=79∧how=0)
 ∨ (g=80∧how=1)
 ∨ (g=81∧how=2)
 ∨ (g=82∧how=3)
 := by
 unfold howOf at h
 repeat' split at h
 all_goals first | (cases h; simp [*]; done) | cases h
theorem quotS_ok:FspOk Tryz.prog 130 quotS:=tower_S fsB_ok spA_ok ⟨Tryz.func130,fun _ _=>by kernel_rfl⟩ (by intro α args k; unfold quotS; split<;>(try split)<;>simp only [cond_bind,fitK_bind,Option.bind_some,Option.bind_none]) fun args out hs h=>by
 unfold quotS at h
 split at h
 ·rename_i h1 l d neg g
  split at h
  ·rename_i how hg
   cases hx:wB h1&&wB l&&wB d&&decide (0 < d)
   ·rw [hx] at h; cases h
   ·rw [hx,cond_true] at h
    rcases how_cases hg with hf
     | ⟨rfl,rfl⟩
     | ⟨rfl,rfl⟩
     | ⟨rfl,rfl⟩
     | ⟨rfl,rfl⟩
    ·cases hf
    ·exact ⟨1,2,(quot0_plain 1 0 AOut h1 l d neg hx some).trans h⟩
    ·exact ⟨1,2,(quot1_plain 1 0 AOut h1 l d neg hx some).trans h⟩
    ·exact ⟨1,2,(quot2_plain 1 0 AOut h1 l d neg hx some).trans h⟩
    ·exact ⟨1,2,(quot3_plain 1 0 AOut h1 l d neg hx some).trans h⟩
  ·cases h
 ·cases h
theorem or_add {X Y:Int} (k:Nat) (hX:0≤X∧X < 18446744073709551616) (hk:X % (2 ^ k:Nat)=0) (hY:0≤Y∧Y < (2 ^ k:Nat)) (hs:X + Y < 18446744073709551616):IntKind.u64.wrap (((BitVec.ofInt 64 X ||| BitVec.ofInt 64 Y).toNat:Nat):Int)=X + Y:=by
 obtain ⟨x,rfl⟩:=Int.eq_ofNat_of_zero_le hX.1
 obtain ⟨y,rfl⟩:=Int.eq_ofNat_of_zero_le hY.1
 have hy:y < 2 ^ k:=by exact_mod_cast hY.2
 have hx:x % 2 ^ k=0:=by exact_mod_cast hk
 have e:x=2 ^ k * (x / 2 ^ k):=by have:=Nat.div_add_mod x (2 ^ k); omega
 have e1:(BitVec.ofInt 64 (x:Int)).toNat=x:=by rw [BitVec.toNat_ofInt]; have:x < 18446744073709551616:=by omega
                                               simp; omega
 have e2:(BitVec.ofInt 64 (y:Int)).toNat=y:=by rw [BitVec.toNat_ofInt]; have:y < 18446744073709551616:=by omega
                                               simp; omega
 rw [BitVec.toNat_or,e1,e2]
 have e3:x ||| y=x + y:=by
  rw [e,← Nat.two_pow_add_eq_or_of_lt hy]
 rw [e3,u64w _ (by omega)]
 omega
theorem bit_search {α:Type} {f:Int × Int × Unit→Option (LRes (Int × Int × Unit) α)} (p:Nat→Bool) (K:Nat)
  (hf:∀ n k,n % 2 ^ (k + 1)=0→n + 2 ^ (k + 1)≤2 ^ K→p n=true→f ((n:Int),((2 ^ k:Nat):Int),())=some (.cont (((bif p (n + 2 ^ k) then n + 2 ^ k else n:Nat):Int),((2 ^ k / 2:Nat):Int),())))
  (hend:∀ n:Nat,f ((n:Int),0,())=some (.brk 0 ((n:Int),0,()))) :
  ∀ (k:Nat) (n:Nat),n % 2 ^ k=0→n + 2 ^ k≤2 ^ K→p n=true→∀ N,k < N→iterL N f ((n:Int),((2 ^ k / 2:Nat):Int),())=some (.brk 0 (((bs p k n:Nat):Int),0,()))
 | 0,n,h1,h2,h3,N,hN=>by
   obtain ⟨N,rfl⟩:∃ M,N=M + 1:=⟨N - 1,by omega⟩
   have e:(((2 ^ 0 / 2:Nat)):Int)=0:=rfl
   rw [e]
   simp only [iterL,hend]
   rfl
 | k + 1,n,h1,h2,h3,N,hN=>by
   obtain ⟨N,rfl⟩:∃ M,N=M + 1:=⟨N - 1,by omega⟩
   have e0:2 ^ (k + 1) / 2=2 ^ k:=by rw [Nat.pow_succ]; omega
   have e1:2 ^ (k + 1)=2 ^ k + 2 ^ k:=by rw [Nat.pow_succ]; omega
   have hd:n % 2 ^ k=0:=by
    have:(n % 2 ^ (k + 1)) % 2 ^ k=n % 2 ^ k:=Nat.mod_mod_of_dvd _ ⟨2,by rw [Nat.pow_succ]⟩
    rw [h1] at this
    simpa using this.symm
   have hf':=hf n k h1 h2 h3
   rw [e0]
   simp only [iterL,hf',bs]
   cases hp:p (n + 2 ^ k)
   ·exact bit_search p K hf hend k n hd (by omega) h3 N (by omega)
   ·exact bit_search p K hf hend k (n + 2 ^ k) (by rw [Nat.add_mod_right]; exact hd) (by omega) hp N (by omega)
theorem fdiv_pos (a:Int) {b:Int} (hb:0≤b):a.fdiv b=a / b:=Int.fdiv_eq_ediv_of_nonneg a hb
def fsC:FuncId→Option Fsp:=fun g=>
 if g=130 then some quotS else fsB g
theorem fsC_ok:FsOk fsC:=
 fs_cons quotS_ok <|
 fsB_ok
theorem all2 (a b:Int):List.all [a,b] okB=(okB a&&okB b):=by simp
theorem all1 (a:Int):List.all [a] okB=okB a:=by simp
theorem ab_mul_in {a b:Int} (ha:okB a=true) (hb:okB b=true):0≤ab a * ab b∧ab a * ab b≤4951760157141521099596496896:=
 ⟨Int.mul_nonneg (ab_nn a) (ab_nn b),Int.mul_le_mul (ok_ab ha) (ok_ab hb) (ab_nn b) (by omega)⟩
def squareS:Fsp:=fun _ args k=>match args with
 | [.agg [.int .i64 x,.int .i64 y]]=>bif okB x&&okB y then k (.ret (.agg [uN (hiW (sq2 x y)),uN (loW (sq2 x y))])) else k (mis fxm 2)
 | _=>none
theorem square_text (N n:Nat) (α:Type) (a b:Int) (k:AOut→Option α):evFn real tab ((twT fsC spA).env real tab N (n + 2)) N Tryz.f136 α [sN a b] k =
 bif [a,b].all okB then bif i6 a then bif i6 a then bif wB (ab a)&&wB (ab a) then bif i6 b then bif i6 b then bif wB (ab b)&&wB (ab b) then bif wB (hiW (ab a * ab a))&&wB (loW
 (ab a * ab a))&&wB (hiW (ab b * ab b))&&wB (loW (ab b * ab b))&&decide (vw (hiW (ab a * ab a)) (loW (ab a * ab a)) + vw (hiW (ab b * ab b)) (loW (ab b * ab b)) <
 340282366920938463463374607431768211456) then k (AOut.ret (AVal.agg [AVal.int IntKind.u64 (hiW (vw (hiW (ab a * ab a)) (loW (ab a * ab a)) + vw (hiW (ab b * ab b)) (loW (ab b * ab
 b)))),AVal.int IntKind.u64 (loW (vw (hiW (ab a * ab a)) (loW (ab a * ab a)) + vw (hiW (ab b * ab b)) (loW (ab b * ab b))))])) else none else none else none else none else none else
 none else none else k (mis fxm 2):=by kernel_rfl
theorem squareS_ok:FspOk Tryz.prog 136 squareS:=tower_S fsC_ok spA_ok ⟨Tryz.func136,fun _ _=>by kernel_rfl⟩ (by intro α args k; unfold squareS; split<;>simp only [cond_bind,Option.bind_some,Option.bind_none]) fun args out hs h=>by
 unfold squareS at h
 split at h
 ·rename_i x y
  refine ⟨8,2,(square_text 8 0 AOut x y some).trans (Eq.trans ?_ h)⟩
  rw [all2]
  cases hx:okB x
  ·rfl
  ·cases hy:okB y
   ·rfl
   ·have a1:=ab_mul_in hx hx
    have a2:=ab_mul_in hy hy
    simp only [i6_ok hx,i6_ok hy,wB_ab (i6_ok hx),wB_ab (i6_ok hy),hi_wB (show 0≤ab x * ab x∧ab x * ab x < _ from ⟨a1.1,by omega⟩),hi_wB (show 0≤ab y * ab y∧ab y * ab y < _ from ⟨a2.1,by omega⟩),lo_wB,vw_hl,Bool.and_self,cond_true,decide_eq_true (show ab x * ab x + ab y * ab y < 340282366920938463463374607431768211456 by omega)]
    rfl
 ·cases h
structure Exd (n D:Nat) (w w':World):Prop where
 os:w'.os=w.os
 tape:w'.tape=w.tape
 output:w'.output=w.output
 size:w.heap.size≤w'.heap.size
 block:∀ k,k < n→k≠D→w'.heap[k]?=w.heap[k]?
theorem Exd.of {n D:Nat} {w w':World} (h:Below n w w'):Exd n D w w':=⟨h.os,h.tape,h.output,h.size,fun k hk _=>h.block k hk⟩
theorem Exd.trans {n D:Nat} {a b c:World} (h:Exd n D a b) (k:Exd n D b c):Exd n D a c:=
 ⟨k.os.trans h.os,k.tape.trans h.tape,k.output.trans h.output,Nat.le_trans h.size k.size,fun i hi hd=>(k.block i hi hd).trans (h.block i hi hd)⟩
theorem Exd.set {n D:Nat} {w:World} (v:Value):Exd n D w (w.setCell ⟨D,0,none⟩ v):=
 ⟨rfl,rfl,rfl,by simp [World.setCell],fun k _ hd=>Below.heap_setCell _ _ _ _ hd⟩
theorem hidOf {p:Prop} (h:p):Hid p:=h
theorem cellSet {w:World} {a:Addr} {u:Value} (v:Value) (h:w.cell? a=some u):(w.setCell a v).cell? a=some v:=World.cell?_setCell_same w a v h
theorem rep_fn {h g w} {f:FuncId} {caps:List AVal} {z:Value} (r:Rep h g w (.fn f caps) z):∃ arr,z=.func (.func f) #[] arr∧caps.length=arr.size:=by
 cases r with
 | fn _ _ arr hl _=>exact ⟨arr,rfl,hl⟩
structure Exe (n D:Nat) (w w':World):Prop where
 os:w'.os=w.os
 tape:w'.tape=w.tape
 output:w'.output=w.output
 size:w.heap.size≤w'.heap.size
 block:∀ k,k < n→k≠D→k≠D + 1→w'.heap[k]?=w.heap[k]?
theorem Exe.of {n D:Nat} {w w':World} (h:Below n w w'):Exe n D w w':=⟨h.os,h.tape,h.output,h.size,fun k hk _ _=>h.block k hk⟩
theorem Exe.trans {n D:Nat} {a b c:World} (h:Exe n D a b) (k:Exe n D b c):Exe n D a c:=
 ⟨k.os.trans h.os,k.tape.trans h.tape,k.output.trans h.output,Nat.le_trans h.size k.size,fun i hi hd he=>(k.block i hi hd he).trans (h.block i hi hd he)⟩
theorem Exe.set {n D:Nat} {w:World} (v:Value):Exe n D w (w.setCell ⟨D,0,none⟩ v):=
 ⟨rfl,rfl,rfl,by simp [World.setCell],fun k _ hd _=>Below.heap_setCell _ _ _ _ hd⟩
theorem Exe.set1 {n D:Nat} {w:World} (v:Value):Exe n D w (w.setCell ⟨D + 1,0,none⟩ v):=
 ⟨rfl,rfl,rfl,by simp [World.setCell],fun k _ _ hd=>Below.heap_setCell _ _ _ _ hd⟩
theorem Exe.drew {n D:Nat} {w w':World} (h:Exe n D w w'):Exe n D w { w' with drawn:=w'.drawn + 1 }:=⟨h.os,h.tape,h.output,h.size,h.block⟩
theorem two_kept {w w1:World} {c1 c2:Array Value} {t1 t2:TypeId} (h1:w1.heap[w.heap.size]?=((w.alloc (.cells c1 t1)).alloc (.cells c2 t2)).heap[w.heap.size]?) (h2:w1.heap[w.heap.size + 1]?=((w.alloc (.cells c1 t1)).alloc (.cells c2 t2)).heap[w.heap.size + 1]?) :
  (∀ i,w1.cell? ⟨w.heap.size,i,none⟩=c1[i]?)∧(∀ i,w1.cell? ⟨w.heap.size + 1,i,none⟩=c2[i]?)∧(∀ i,w1.frozen? ⟨w.heap.size,i,none⟩=false)∧(∀ i,w1.frozen? ⟨w.heap.size + 1,i,none⟩=false):=by
 refine ⟨fun i=>?_,fun i=>?_,fun i=>?_,fun i=>?_⟩
 ·rw [World.cell?_of_block (w':=w1) (a:=⟨w.heap.size,i,none⟩) h1]; simp [go_sem]
 ·rw [World.cell?_of_block (w':=w1) (a:=⟨w.heap.size + 1,i,none⟩) h2]; simp [go_sem]
 ·rw [World.frozen?_of_block (w':=w1) (a:=⟨w.heap.size,i,none⟩) h1]; simp [go_sem]
 ·rw [World.frozen?_of_block (w':=w1) (a:=⟨w.heap.size + 1,i,none⟩) h2]; simp [go_sem]
theorem cellSetNe {w:World} {a b:Addr} (v:Value) (h:a≠b):(w.setCell a v).cell? b=w.cell? b:=World.cell?_setCell_other w a b v h
def fxPanic (e:Int):List PanicEntry:=[{ v:=.iface 141 (.agg #[.int .i64 e]),recovered:=false }]
theorem fxassert_yes (c:Int) (w:World):(Instr.typeAssert (.iface 141 (.agg #[.int .i64 c])) 20 141 true).run Tryz.prog w=.ok (.tuple #[.agg #[.int .i64 c],.bool true]) w:=by kernel_rfl
theorem fxassert_nil (w:World):(Instr.typeAssert .nilIface 20 141 true).run Tryz.prog w=.ok (.tuple #[.agg #[.int .i64 0],.bool false]) w:=by kernel_rfl
theorem fitried1_panic (b:Nat) (x y c:Int) (w:World) (hp:w.cell? ⟨b,0,none⟩=some (.int .i64 x)) (hq:w.cell? ⟨b + 1,0,none⟩=some (.int .i64 y)) (fp:w.frozen? ⟨b,0,none⟩=false) (fq:w.frozen? ⟨b + 1,0,none⟩=false) (hqb:b + 1 < w.heap.size) :
  CallsD Tryz.prog 78 #[.pointer (some ⟨b,0,none⟩),.pointer (some ⟨b + 1,0,none⟩)] (.panicking (fxPanic c)) w fun e u' w'=>
   e=.returned (.tuple #[])∧u'=.panicking [{ v:=.iface 141 (.agg #[.int .i64 c]),recovered:=true }]∧w'.cell? ⟨b,0,none⟩=some (.int .i64 0)∧w'.cell? ⟨b + 1,0,none⟩=some (.int .i64 c)∧Exe w.heap.size b w w':=by
 refine callsD_of_wpS Tryz.func78 rfl fun c₀ cs hu=>?_
 apply wpS_seq
 apply wpS_region
 simp [wpOpsS,go_sem,recoverD,hu,fxPanic,Tryz.ntmps78,Exit.thenS,Array.replicate,List.replicate]
 refine wpS_of_wp ?_
 clear hu
 have hta:=fun w=>fxassert_yes c w
 have ha:∀ o,Below w.heap.size w (w.alloc o):=fun o=>(Below.refl _ _).alloc (Nat.le_refl _) o
 have hp':∀ o,(w.alloc o).cell? ⟨b,0,none⟩=some (.int .i64 x):=fun o=>((ha o).cell (p:=⟨b,0,none⟩) (by simp; omega)).trans hp
 have hq':∀ o,(w.alloc o).cell? ⟨b + 1,0,none⟩=some (.int .i64 y):=fun o=>((ha o).cell (p:=⟨b + 1,0,none⟩) (by simp; omega)).trans hq
 have fp':∀ o,(w.alloc o).frozen? ⟨b,0,none⟩=false:=fun o=>((ha o).frozen (p:=⟨b,0,none⟩) (by simp; omega)).trans fp
 have fq':∀ o,(w.alloc o).frozen? ⟨b + 1,0,none⟩=false:=fun o=>((ha o).frozen (p:=⟨b + 1,0,none⟩) (by simp; omega)).trans fq
 clear ha
 go_wp2
 go_region
 all_goals
  go_big_unhide
  simp [bodyPostS,results,Tryz.results78,go_sem]
  refine ⟨cellSet _ (hp' _),cellSet (u:=.int .i64 y) _ ((cellSetNe _ (by simp)).trans (hq' _)),?_⟩
  exact (((Exe.of ((Below.refl w.heap.size w).alloc (Nat.le_refl _) _)).trans (.set _)).trans (.set1 _)).drew
theorem fitried1_idle (b:Nat) (w:World) :
  CallsD Tryz.prog 78 #[.pointer (some ⟨b,0,none⟩),.pointer (some ⟨b + 1,0,none⟩)] .returning w fun e u' w'=>
   e=.returned (.tuple #[])∧u'=.returning∧Below w.heap.size w w':=by
 refine callsD_of_wpS Tryz.func78 rfl fun c₀ cs hu=>?_
 apply wpS_seq
 apply wpS_region
 simp [wpOpsS,go_sem,recoverD,hu,Tryz.ntmps78,Exit.thenS,Array.replicate,List.replicate]
 refine wpS_of_wp ?_
 have hta:=fun w=>fxassert_nil w
 go_wp2
 all_goals
  simp [bodyPostS,results,Tryz.results78,go_sem]
  exact ⟨.returning,by cases c₀; simp_all,rfl,(Below.refl _ _).alloc (Nat.le_refl _) _⟩
set_option maxHeartbeats 1000000 in
theorem fitried_ok (K:FuncId) (caps:Array Value) (v:Int) (Q:World→Prop) (he:∀ w,(callFunc K caps).run Tryz.prog w=.ok (.enter K caps) w) (w:World)
  (h:∀ w1,Below w.heap.size w w1→w.heap.size + 1 < w1.heap.size→Calls Tryz.prog K caps w1 fun e w'=>e=.returned (.int .i64 v)∧w'.heap[w.heap.size]?=w1.heap[w.heap.size]?∧w'.heap[w.heap.size + 1]?=w1.heap[w.heap.size + 1]?∧w1.heap.size≤w'.heap.size∧Q w') :
  Calls Tryz.prog 38 #[.func (.func K) #[] caps] w fun e w'=>e=.returned (.tuple #[.int .i64 v,.int .i64 0])∧∃ w2,Q w2∧Exe w2.heap.size w.heap.size w2 w':=by
 have hmf:∀ (fn:Fn) (first cap:Array Value) (w:World),(Instr.makeFunc fn first cap).run Tryz.prog w=.ok (.func fn first cap) w:=fun _ _ _ _=>rfl
 have HH:=hidOf h
 have hcall:∀ w,(callFunc K caps).run Tryz.prog w=.ok (.enter K caps) w:=he
 clear h he
 go_enter_defers Tryz.func38,Tryz.ntmps38
 go_wp2_with (go_at_fn K; refine (HH.out _ (((Below.refl _ _).alloc (Nat.le_refl _) _).alloc (by simp) _) (by simp)).mono ?_; rintro e w1 ⟨rfl,hb1,hb2,hz1,hq⟩; obtain ⟨hc1,hc2,hf1,hf2⟩:=two_kept hb1 hb2; have hz:w.heap.size + 1 < w1.heap.size:=(by simp at hz1; omega); have hd1:=hc1 0; have hd2:=hc2 0)
 refine leaves_cons (f:=78) (args:=#[.pointer (some ⟨w.heap.size,0,none⟩),.pointer (some ⟨w.heap.size + 1,0,none⟩)]) (by simp) (by simp [go_sem]) ?_
 have hs:((w1.setCell ⟨w.heap.size,0,none⟩ (.int .i64 v)).setCell ⟨w.heap.size + 1,0,none⟩ (.int .i64 0)).heap.size=w1.heap.size:=by simp [World.setCell]
 refine (fitried1_idle w.heap.size _).mono ?_
 rintro e u' w2 ⟨rfl,rfl,hb2⟩
 rw [hs] at hb2
 have g1:w2.cell? ⟨w.heap.size,0,none⟩=some (.int .i64 v):=by
  rw [hb2.cell (p:=⟨w.heap.size,0,none⟩) (by show w.heap.size < _; omega),cellSetNe _ (by simp)]
  exact cellSet _ hd1
 have g2:w2.cell? ⟨w.heap.size + 1,0,none⟩=some (.int .i64 0):=by
  rw [hb2.cell (p:=⟨w.heap.size + 1,0,none⟩) hz]
  exact cellSet (u:=.int .i64 0) _ ((cellSetNe _ (by simp)).trans hd2)
 clear HH hcall hmf hc1 hc2 hf1 hf2 hd1 hd2
 simp [Leaves,settle,results,Tryz.results38,go_sem,g1,g2]
 exact ⟨w1,hq,((Exe.set _).trans (.set1 _)).trans (Exe.of hb2)⟩
set_option maxHeartbeats 1000000 in
theorem fitried_err (K:FuncId) (caps:Array Value) (c:Int) (Q:World→Prop) (he:∀ w,(callFunc K caps).run Tryz.prog w=.ok (.enter K caps) w) (w:World)
  (h:∀ w1,Below w.heap.size w w1→w.heap.size + 1 < w1.heap.size→Calls Tryz.prog K caps w1 fun e w'=>e=.panicked (fxPanic c)∧w'.heap[w.heap.size]?=w1.heap[w.heap.size]?∧w'.heap[w.heap.size + 1]?=w1.heap[w.heap.size + 1]?∧w1.heap.size≤w'.heap.size∧Q w') :
  Calls Tryz.prog 38 #[.func (.func K) #[] caps] w fun e w'=>e=.returned (.tuple #[.int .i64 0,.int .i64 c])∧∃ w2,Q w2∧Exe w2.heap.size w.heap.size w2 w':=by
 have hmf:∀ (fn:Fn) (first cap:Array Value) (w:World),(Instr.makeFunc fn first cap).run Tryz.prog w=.ok (.func fn first cap) w:=fun _ _ _ _=>rfl
 have HH:=hidOf h
 have hcall:∀ w,(callFunc K caps).run Tryz.prog w=.ok (.enter K caps) w:=he
 clear h he
 go_enter_defers Tryz.func38,Tryz.ntmps38
 go_wp2_with (go_at_fn K; refine (HH.out _ (((Below.refl _ _).alloc (Nat.le_refl _) _).alloc (by simp) _) (by simp)).mono ?_; rintro e w1 ⟨rfl,hb1,hb2,hz1,hq⟩; obtain ⟨hc1,hc2,hf1,hf2⟩:=two_kept hb1 hb2; have hz:w.heap.size + 1 < w1.heap.size:=(by simp at hz1; omega))
 refine leaves_cons (f:=78) (args:=#[.pointer (some ⟨w.heap.size,0,none⟩),.pointer (some ⟨w.heap.size + 1,0,none⟩)]) (by simp) (by simp [go_sem]) ?_
 refine (fitried1_panic w.heap.size 0 0 c _ (hc1 0) (hc2 0) (hf1 0) (hf2 0) hz).mono ?_
 rintro e u' w2 ⟨rfl,rfl,g1,g2,hb2⟩
 clear HH hcall hmf hc1 hc2 hf1 hf2
 simp [Leaves,settle,results,Tryz.results38,go_sem,g1,g2]
 exact ⟨w1,hq,hb2⟩
theorem le_exe {K K2:Nat→Prop} {h g} {w w':World} {D:Nat} (s:St K2 h g w) (hM:∀ b,g.M b→b≠D∧b≠D + 1) (hK:∀ b,K b→(b≠D∧b≠D + 1)∧K2 b) (e:Exe w.heap.size D w w'):Le K h g w h g w' where
 len:=Nat.le_refl _
 here:=fun _ h=>h
 m:=fun _ h=>h
 new:=fun _ h=>.inl h
 mw:=fun b hb=>e.block b (s.low b hb) (hM b hb).1 (hM b hb).2
 k:=fun b hb=>e.block b (s.klow b (hK b hb).2) (hK b hb).1.1 (hK b hb).1.2
 box:=fun _ wr cs' _ h=>⟨wr,cs',h,rfl,rfl⟩
 row:=fun _ wr _ _ xs' _ h=>⟨wr,xs',h,fun _=>rfl,rfl⟩
 lp:=fun _ st pend _ _ _ _ _ h=>⟨st,pend,h,rfl⟩
 lockb:=fun _ _ h=>h
 lockr:=fun _ _ _ _ h=>h
 os:=e.os
 tape:=e.tape
 output:=e.output
 size:=e.size
theorem st_exe {K K2:Nat→Prop} {h g} {w w':World} {D:Nat} (s:St K2 h g w) (hD:K2 D∧K2 (D + 1)) (hM:∀ b,g.M b→b≠D∧b≠D + 1) (hK:∀ b,K b→(b≠D∧b≠D + 1)∧K2 b) (e:Exe w.heap.size D w w'):St K h g w' where
 blk:=fun i b hb=>(s.blk i b hb).mono (le_exe s hM hK e) rfl fun n hd hn=>by
  obtain ⟨h1,h2,h3⟩:=s.sep i n ⟨b,hb,hd⟩ hn
  exact e.block n h3 (fun e'=>h1 (by rw [e']; exact hD.1)) fun e'=>h1 (by rw [e']; exact hD.2)
 inj:=s.inj
 sep:=fun i n ai hn=>by
  obtain ⟨h1,h2,h3⟩:=s.sep i n ai hn
  exact ⟨fun hk=>h1 (hK n hk).2,h2,Nat.lt_of_lt_of_le h3 e.size⟩
 low:=fun b hb=>Nat.lt_of_lt_of_le (s.low b hb) e.size
 klow:=fun b hb=>Nat.lt_of_lt_of_le (s.klow b (hK b hb).2) e.size
def tried2S (mis:TypeId) (fit:AVal→Bool) (zero:AVal) (cv:Cv):Cv:=fun _ v args h k=>
 match v,args with
 | .fn _ [],[.fn f caps]=>cv _ (.fn f caps) [] h fun x u h1=>
   match x with
   | .normal=>if fit u=true then k .normal (.tup [u,.int .i64 0]) h1 else none
   | .pan (.ifc t (.agg [.int .i64 e]))=>if t=mis then k .normal (.tup [zero,.int .i64 e]) h1 else none
   | _=>none
 | _,_=>none
structure Tried2Ok (P:Program) (f:FuncId) (mis:TypeId) (fit:AVal→Bool) (zf:AVal→Value) (zero:AVal) (zv:Value):Prop where
 shape:∀ h g w u z,fit u=true→Rep h g w u z→z=zf u
 rep:∀ h g w u,fit u=true→Rep h g w u (zf u)
 repz:∀ h g w,Rep h g w zero zv
 enter:∀ args w,(callFunc f args).run P w=.ok (.enter f args) w
 ok:∀ (K:FuncId) (caps:Array Value) (u:AVal) (Q:World→Prop),fit u=true→(∀ w,(callFunc K caps).run P w=.ok (.enter K caps) w)→∀ (w:World),
  (∀ w1,Below w.heap.size w w1→w.heap.size + 1 < w1.heap.size→Calls P K caps w1 fun e w'=>e=.returned (zf u)∧w'.heap[w.heap.size]?=w1.heap[w.heap.size]?∧w'.heap[w.heap.size + 1]?=w1.heap[w.heap.size + 1]?∧w1.heap.size≤w'.heap.size∧Q w') →
  Calls P f #[.func (.func K) #[] caps] w fun e w'=>e=.returned (.tuple #[zf u,.int .i64 0])∧∃ w2,Q w2∧Exe w2.heap.size w.heap.size w2 w'
 err:∀ (K:FuncId) (caps:Array Value) (c:Int) (Q:World→Prop),(∀ w,(callFunc K caps).run P w=.ok (.enter K caps) w)→∀ (w:World),
  (∀ w1,Below w.heap.size w w1→w.heap.size + 1 < w1.heap.size→Calls P K caps w1 fun e w'=>e=.panicked [{ v:=.iface mis (.agg #[.int .i64 c]),recovered:=false }]∧w'.heap[w.heap.size]?=w1.heap[w.heap.size]?∧w'.heap[w.heap.size + 1]?=w1.heap[w.heap.size + 1]?∧w1.heap.size≤w'.heap.size∧Q w') →
  Calls P f #[.func (.func K) #[] caps] w fun e w'=>e=.returned (.tuple #[zv,.int .i64 c])∧∃ w2,Q w2∧Exe w2.heap.size w.heap.size w2 w'
theorem tried2_at {P:Program} {f:FuncId} {mis:TypeId} {fit:AVal→Bool} {zf:AVal→Value} {zero:AVal} {zv:Value} (ht:Tried2Ok P f mis fit zf zero zv) (cv:Cv) (hcv:CvOk P cv) (caps0:List AVal):CvAt P (tried2S mis fit zero cv) (.fn f caps0) where
 nat:=fun α args h k=>by
  unfold tried2S
  split
  ·rename_i f' fk caps heq
   refine (hcv.nat _ (.fn fk caps) [] h _).trans (Eq.trans ?_ (congrArg (fun z:Option (AExit × AVal × List ABlk)=>z.bind fun p=>k p.1 p.2.1 p.2.2) (hcv.nat _ (.fn fk caps) [] h _).symm))
   cases cv _ (.fn fk caps) [] h tripE with
   | none=>rfl
   | some p=>
     obtain ⟨x,u,h1⟩:=p
     simp only [Option.bind_some]
     split
     ·split<;>rfl
     ·split<;>rfl
     ·rfl
  ·rfl
 ok:=fun args h x u h1 hk K g w fv cargs s hfv hl hr=>by
  unfold tried2S at hk
  split at hk
  ·rename_i f' fk caps heq
   cases heq
   rw [hcv.nat] at hk
   obtain ⟨carr,rfl,hcl⟩:=rep_fn hfv
   have hc0:carr=#[]:=Array.eq_empty_of_size_eq_zero hcl.symm
   subst hc0
   obtain ⟨l⟩:=cargs
   match l,hl with
   | [z],_=>
     have hz:=hr 0 _ z rfl rfl
     obtain ⟨karr,rfl,hkl⟩:=rep_fn hz
     -- the call below
     have below:∀ x0 u0,cv _ (.fn fk caps) [] h tripE=some (x0,u0,h1)→∀ w1,Below w.heap.size w w1→w.heap.size + 1 < w1.heap.size →
       (∀ w,(callFunc fk karr).run P w=.ok (.enter fk karr) w)∧Calls P fk karr w1 (CvPost (fun b=>K b∨b=w.heap.size∨b=w.heap.size + 1) h g w1 h1 x0 u0):=fun x0 u0 hc w1 hb hlt=>by
      have s1:=s.below hb g.M (fun _ h=>h) (fun _ h=>.inl h) fun b hb'=>Nat.lt_of_lt_of_le (s.low b hb') hb.size
      have l1:=le_below s hb g.M (fun _ h=>h) (fun _ h=>.inl h)
      have s2:St (fun b=>K b∨b=w.heap.size∨b=w.heap.size + 1) h g w1:={
       blk:=s1.blk
       inj:=s1.inj
       sep:=fun i b ha hn=>by
        obtain ⟨a1,a2,a3⟩:=s1.sep i b ha hn
        obtain ⟨_,_,a4⟩:=s.sep i b ha hn
        exact ⟨fun hk=>hk.elim a1 fun e=>by omega,a2,a3⟩
       low:=s1.low
       klow:=fun b hb'=>hb'.elim (s1.klow b) fun e=>by omega }
      rcases hcv.ok (.fn fk caps) [] h x0 u0 h1 hc _ g w1 (.func (.func fk) #[] karr) #[] s2 (hz.mono l1) rfl (fun j c z hc=>by simp at hc) with ⟨f2,c2,he,hen,hcall⟩ | ⟨_,_,_,_,_,he,_⟩ | ⟨_,_,_,_,⟨z,hz,_⟩,_⟩
      ·cases he
       simp only [Array.empty_append] at hen hcall
       exact ⟨hen,hcall⟩
      ·cases he
      ·simp at hz
     have hen:∀ x0 u0,cv _ (.fn fk caps) [] h tripE=some (x0,u0,h1)→∀ w,(callFunc fk karr).run P w=.ok (.enter fk karr) w:=fun x0 u0 hc=>
      (below x0 u0 hc ((w.alloc (.cells #[] 0)).alloc (.cells #[] 0)) (((Below.refl _ _).alloc (Nat.le_refl _) _).alloc (by simp) _) (by simp)).1
     let Q:World→Prop:=fun w2=>∃ g',St (fun b=>K b∨b=w.heap.size∨b=w.heap.size + 1) h1 g' w2∧Le K h g w h1 g' w2∧∀ b,g'.M b→b≠w.heap.size∧b≠w.heap.size + 1
     have mkQ:∀ w1 w2 g',Below w.heap.size w w1→St (fun b=>K b∨b=w.heap.size∨b=w.heap.size + 1) h1 g' w2→Le (fun b=>K b∨b=w.heap.size∨b=w.heap.size + 1) h g w1 h1 g' w2→Q w2:=fun w1 w2 g' hb a1 a2=>
      ⟨g',a1,(le_below s hb g.M (fun _ h=>h) (fun _ h=>.inl h)).trans (a2.less fun b hb=>.inl hb),fun b hb'=>(a2.new b hb').elim (fun h=>by have:=s.low b h; omega) fun h=>⟨fun e=>h (.inr (.inl e)),fun e=>h (.inr (.inr e))⟩⟩
     have fin:∀ (n:Int) (u:AVal) (z:Value) w2 w',(∀ h g w,Rep h g w u z)→Q w2→Exe w2.heap.size w.heap.size w2 w'→CvPost K h g w h1 .normal (.tup [u,.int .i64 n]) (.returned (.tuple #[z,.int .i64 n])) w':=fun n u z w2 w' hz ⟨g',a1,a2,a3⟩ e=>by
      have hK:∀ b,K b→(b≠w.heap.size∧b≠w.heap.size + 1)∧(K b∨b=w.heap.size∨b=w.heap.size + 1):=fun b hb=>⟨by have:=s.klow b hb; omega,.inl hb⟩
      refine ⟨g',st_exe a1 ⟨.inr (.inl rfl),.inr (.inr rfl)⟩ a3 hK e,a2.trans (le_exe a1 a3 hK e),_,rfl,.tup _ _ rfl fun j c x hc hx=>?_⟩
      match j with
      | 0=>cases hc; cases hx; exact hz _ _ _
      | 1=>cases hc; cases hx; exact .int _ _
      | j + 2=>cases hc
     refine .inl ⟨f,#[],rfl,fun w=>ht.enter _ w,?_⟩
     show Calls P f #[.func (.func fk) #[] karr] w _
     cases hc:cv _ (.fn fk caps) [] h tripE with
     | none=>rw [hc] at hk; cases hk
     | some p=>
       obtain ⟨x0,u0,h0⟩:=p
       rw [hc] at hk
       simp only [Option.bind_some] at hk
       split at hk
       ·split at hk
        ·rename_i hfit
         cases hk
         refine (ht.ok fk karr u0 Q hfit (hen _ _ hc) w fun w1 hb hlt=>((below _ _ hc w1 hb hlt).2).mono ?_).mono ?_
         ·rintro e w' ⟨g',a1,a2,y,rfl,hy⟩
          have:=ht.shape _ _ _ _ _ hfit hy
          subst this
          exact ⟨rfl,a2.k _ (.inr (.inl rfl)),a2.k _ (.inr (.inr rfl)),a2.size,mkQ w1 w' g' hb a1 a2⟩
         ·rintro e w' ⟨rfl,w2,hq,hex⟩
          exact fin 0 u0 _ w2 w' (fun h g w=>ht.rep h g w u0 hfit) hq hex
        ·cases hk
       ·rename_i t ee
        split at hk
        ·rename_i ht'
         subst ht'
         cases hk
         refine (ht.err fk karr ee Q (hen _ _ hc) w fun w1 hb hlt=>((below _ _ hc w1 hb hlt).2).mono ?_).mono ?_
         ·rintro e w' ⟨g',a1,a2,y,rfl,hy⟩
          cases hy with
          | ifc _ _ y hy=>
            cases hy with
            | agg _ arr hl' hr'=>
              have hsz:arr.size=1:=hl'.symm
              have e0:=rep_int (hr' 0 _ arr[0] rfl (by simp))
              have:arr=#[.int .i64 ee]:=by
               obtain ⟨l⟩:=arr
               match l,hsz with
               | [q],_=>simp at e0; rw [e0]
              subst this
              exact ⟨rfl,a2.k _ (.inr (.inl rfl)),a2.k _ (.inr (.inr rfl)),a2.size,mkQ w1 w' g' hb a1 a2⟩
         ·rintro e w' ⟨rfl,w2,hq,hex⟩
          exact fin ee zero _ w2 w' ht.repz hq hex
        ·cases hk
       ·cases hk
  ·cases hk
def fitI:AVal→Bool
 | .int .i64 _=>true
 | _=>false
def valI:AVal→Value
 | .int k n=>.int k n
 | _=>.int .i64 0
theorem fitried_tried:Tried2Ok Tryz.prog 38 141 fitI valI (.int .i64 0) (.int .i64 0) where
 shape:=fun h g w u z hu hr=>by
  unfold fitI at hu
  split at hu
  ·exact rep_int hr
  ·cases hu
 rep:=fun h g w u hu=>by
  unfold fitI at hu
  split at hu
  ·exact .int _ _
  ·cases hu
 repz:=fun h g w=>.int _ _
 enter:=fun args w=>by kernel_rfl
 ok:=fun K caps u Q hu he w h=>by
  unfold fitI at hu
  split at hu
  ·exact fitried_ok K caps _ Q he w h
  ·cases hu
 err:=fun K caps c Q he w h=>fitried_err K caps c Q he w h
noncomputable def fsD:FuncId→Option Fsp:=fun g=>
 if g=136 then some squareS else
 fsC g
theorem fsD_ok:FsOk fsD:=
 fs_cons squareS_ok <|
 fsC_ok
noncomputable def spB:FuncId→Option (Cv→Cv):=fun g=>
 if g=38 then some (tried2S fxm fitI (.int .i64 0)) else
 spA g
theorem spB_ok:SpOk spB:=
 sp_cons (fun cv h caps=>tried2_at fitried_tried cv h caps) <|
 spA_ok
/-! Closures that are called in regions that draw their order. -/
noncomputable def fsE:FuncId→Option Fsp:=fun g=>
 fsD g
theorem fsE_ok:FsOk fsE:=
 fsD_ok
/-! Sums and differences of spots. -/
/-! Within. -/
theorem cmp3_le (a b:Int):decide (cmp3 a b≤0)=decide (a≤b):=by
 rw [decide_eq_decide]; unfold cmp3; repeat' split
 all_goals omega
/-! Unit. -/
def fitT {α:Type} (neg:Bool) (n:Int) (k:AOut→Option α):Option α:=bif fxB n then k (i2 (sg neg n) 0) else k (i2 0 4)
theorem fitT_eq {α:Type} (neg:Bool) (n:Int) (k:AOut→Option α):fitT neg n k=k (i2 (fxV neg n) (fxE n)):=by
 unfold fitT fxV fxE; cases fxB n<;>rfl
/-! Times. -/
/-! Dot. -/
/-! Scale. -/
def slP (a n d how:Int):Int:=rndP how (scG a n d) (ab a * ab n) (ab d)
def slOk (a n d:Int):Bool:=okB a&&(rateB n&&rateB d)
def slV (a n d how:Int):Int:=bif slOk a n d then (bif d==0 then 0 else fxV (scG a n d) (slP a n d how)) else 0
def slE (a n d how:Int):Int:=bif slOk a n d then (bif d==0 then 10 else fxE (slP a n d how)) else 2
def scaleS:Fsp:=fun _ args k=>match args with
 | [.int .i64 a,.int .i64 n,.int .i64 d,.int .i64 how]=>bif wayB how then k (i2 (slV a n d how) (slE a n d how)) else none
 | _=>none
def scaleText {α:Type} (x u v how:Int) (k:AOut→Option α):Option α:=
 bif [x].all okB then
  bif decide (u ≥ -2147483648) then
   bif decide (u≤2147483648) then
    bif decide (v ≥ -2147483648) then
     bif !(decide (v≤2147483648)) then k (i2 0 2)
     else
      bif !(v != 0) then k (i2 0 10)
      else
       bif i6 x then
        bif i6 u then
         bif wB (ab x)&&wB (ab u) then
          bif i6 v then
           bif wB (hiW (ab x * ab u))&&wB (loW (ab x * ab u))&&wB (ab v)&&decide (0 < ab v) then
            fitT (!(decide (x < 0)==!(decide (u < 0)==decide (v < 0)))) (rndP how (!(decide (x < 0)==!(decide (u < 0)==decide (v < 0)))) (vw (hiW (ab x * ab u)) (loW (ab x * ab u))) (ab v)) k
           else none
          else none
         else none
        else none
       else none
    else k (i2 0 2)
   else k (i2 0 2)
  else k (i2 0 2)
 else k (i2 0 2)
theorem rate_ok {n:Int} (h:rateB n=true):okB n=true:=by rw [rate_iff] at h; rw [ok_iff]; omega
theorem scale_fin {α:Type} (x u v how:Int) (k:AOut→Option α):scaleText x u v how k=k (i2 (slV x u v how) (slE x u v how)):=by
 unfold scaleText slV slE slOk
 rw [all1]
 cases hx:okB x
 ·rfl
 ·have r1:rateB u=(decide (u ≥ -2147483648)&&decide (u≤2147483648)):=rfl
  have r2:rateB v=(decide (v ≥ -2147483648)&&decide (v≤2147483648)):=rfl
  cases hu:rateB u
  ·rw [hu] at r1
   cases h1:decide (u ≥ -2147483648)
   ·rfl
   ·rw [h1,Bool.true_and] at r1
    rw [← r1]; rfl
  ·rw [hu] at r1
   have r1:=Bool.and_eq_true_iff.1 r1.symm
   rw [r1.1,r1.2]
   cases hv:rateB v
   ·rw [hv] at r2
    cases h1:decide (v ≥ -2147483648)
    ·rfl
    ·rw [h1,Bool.true_and] at r2
     rw [← r2]; rfl
   ·rw [hv] at r2
    have r2:=Bool.and_eq_true_iff.1 r2.symm
    rw [r2.1,r2.2]
    by_cases hz:v=0
    ·subst hz; rfl
    ·have hu':=rate_ok hu
     have hv':=rate_ok hv
     have p:=ab_mul_in hx hu'
     have hav:0 < ab v:=by unfold ab; split<;>omega
     have hb:(v != 0)=true:=by simp [hz]
     have hb2:(v==0)=false:=by simp [hz]
     simp only [hb,hb2,i6_ok hx,i6_ok hu',i6_ok hv',wB_ab (i6_ok hx),wB_ab (i6_ok hu'),wB_ab (i6_ok hv'),lo_wB,vw_hl,hi_wB (show 0≤ab x * ab u∧ab x * ab u < _ from ⟨p.1,by omega⟩),decide_eq_true hav,Bool.and_self,cond_true,cond_false,Bool.not_true]
     rw [fitT_eq]
     rfl
theorem scale0_text (N n:Nat) (α:Type) (x u v:Int) (k:AOut→Option α):evFn real tab ((twT fsE spB).env real tab N (n + 6)) N Tryz.f92 α [iN x,iN u,iN v,iN 0] k=scaleText x u v 0 k:=by kernel_rfl
theorem scale1_text (N n:Nat) (α:Type) (x u v:Int) (k:AOut→Option α):evFn real tab ((twT fsE spB).env real tab N (n + 6)) N Tryz.f92 α [iN x,iN u,iN v,iN 1] k=scaleText x u v 1 k:=by kernel_rfl
theorem scale2_text (N n:Nat) (α:Type) (x u v:Int) (k:AOut→Option α):evFn real tab ((twT fsE spB).env real tab N (n + 6)) N Tryz.f92 α [iN x,iN u,iN v,iN 2] k=scaleText x u v 2 k:=by kernel_rfl
theorem scale3_text (N n:Nat) (α:Type) (x u v:Int) (k:AOut→Option α):evFn real tab ((twT fsE spB).env real tab N (n + 6)) N Tryz.f92 α [iN x,iN u,iN v,iN 3] k=scaleText x u v 3 k:=by kernel_rfl
theorem scaleS_ok:FspOk Tryz.prog 92 scaleS:=tower_S fsE_ok spB_ok ⟨Tryz.func92,fun _ _=>by kernel_rfl⟩ (by intro α args k; unfold scaleS; split<;>simp only [cond_bind,Option.bind_some,Option.bind_none]) fun args out hs h=>by
 unfold scaleS at h
 split at h
 ·rename_i x u v how
  cases hw:wayB how
  ·rw [hw] at h; cases h
  ·rw [hw,cond_true] at h
   rcases way_cases hw with rfl | rfl | rfl | rfl
   ·exact ⟨8,6,(scale0_text 8 0 AOut x u v some).trans ((scale_fin ..).trans h)⟩
   ·exact ⟨8,6,(scale1_text 8 0 AOut x u v some).trans ((scale_fin ..).trans h)⟩
   ·exact ⟨8,6,(scale2_text 8 0 AOut x u v some).trans ((scale_fin ..).trans h)⟩
   ·exact ⟨8,6,(scale3_text 8 0 AOut x u v some).trans ((scale_fin ..).trans h)⟩
 ·cases h
noncomputable def fsF:FuncId→Option Fsp:=fun g=>
 if g=92 then some scaleS else
 fsE g
theorem fsF_ok:FsOk fsF:=
 fs_cons scaleS_ok <|
 fsE_ok
noncomputable def spC:FuncId→Option (Cv→Cv):=fun g=>
 spB g
theorem spC_ok:SpOk spC:=
 spB_ok
section
variable {X α σ:Type}
theorem any_rangeX (xs:List X) (d:X) (q:X→Bool):((List.range xs.length).any fun i=>q (xs.getD i d))=xs.any q:=by
 rw [Bool.eq_iff_iff,List.any_eq_true,List.any_eq_true]
 constructor
 ·rintro ⟨i,hi,hq⟩
  have hlt:=List.mem_range.1 hi
  rw [List.getD_eq_getElem?_getD,List.getElem?_eq_getElem hlt] at hq
  exact ⟨_,List.getElem_mem hlt,hq⟩
 ·rintro ⟨x,hx,hq⟩
  obtain ⟨i,hlt,rfl⟩:=List.mem_iff_getElem.1 hx
  refine ⟨i,List.mem_range.2 hlt,?_⟩
  rw [List.getD_eq_getElem?_getD,List.getElem?_eq_getElem hlt]
  exact hq
theorem count_loop {f:σ→Option (LRes σ α)} {K:Nat→σ→Option α} (st:Nat→σ) (n:Nat) {b:Nat} {y:σ} (h:∀ i,i < n→f (st i)=some (.cont (st (i + 1)))) (hend:f (st n)=some (.brk b y)) {N:Nat} (hN:n < N):afterL (iterL N f (st 0)) K=K b y:=by
 rw [iterL_count st (brk_not b y) n h hend 0 (Nat.zero_le _) N (by omega)]
 rfl
theorem any_loop {f:σ→Option (LRes σ α)} {K:Nat→σ→Option α} (st:Nat→σ) (n:Nat) (p:Nat→Bool) {b:Nat} {y:σ} (R:Option α) (h:∀ i,i < n→f (st i)=bif p i then finL R else some (.cont (st (i + 1)))) (hend:f (st n)=some (.brk b y)):afterL (iterL (n + 1) f (st 0)) K=bif (List.range n).any p then R else K b y:=by
 rw [iterL_any st p (fin_not R) (brk_not b y) n h hend]
 cases (List.range n).any p
 ·rfl
 ·cases R<;>rfl
end
theorem lt_len {i n:Nat} (h:i < n):decide ((i:Int) < (n:Int))=true:=decide_eq_true (by omega)
theorem not_lt_len {n:Nat}:decide ((n:Int) < (n:Int))=false:=decide_eq_false (by omega)
theorem in_len {i n:Nat} (h:i < n):0≤(i:Int)∧(i:Int) < (n:Int):=⟨by omega,by omega⟩
theorem wrap_next {i n:Nat} (h:i < n) (hn:n≤maxLen):IntKind.i64.wrap ((i:Int) + 1)=((i + 1:Nat):Int):=wrap_small (n:=i + 1) (by omega)
end Go.Proofs.YtbkpklfjoifdbaaGreat
namespace Go.Proofs.YtbkpklfjoifdbaaGreat
section
variable {α:Type}
theorem any_from {σ:Type} {f:σ→Option (LRes σ α)} (st:Nat→σ) (p:Nat→Bool) {R E:Option (LRes σ α)} (hR:∀ y,R≠some (.cont y)) (hE:∀ y,E≠some (.cont y)) (n:Nat) (h:∀ i,i < n→f (st i)=bif p i then R else some (.cont (st (i + 1)))) (hend:f (st n)=E) :
  ∀ k m,m + k=n→∀ N,k < N→iterL N f (st m)=bif (List.range' m k).any p then R else E
 | 0,m,hm,N,hN=>by
   cases N with
   | zero=>omega
   | succ N=>
     have:m=n:=by omega
     subst this
     simp only [iterL,hend]
     simp only [List.range'_zero,List.any_nil,cond_false]
 | k + 1,m,hm,N,hN=>by
   cases N with
   | zero=>omega
   | succ N=>
     have hf:=h m (by omega)
     have ih:=any_from st p hR hE n h hend k (m + 1) (by omega) N (by omega)
     rw [List.range'_succ,List.any_cons]
     cases hp:p m
     ·rw [hp] at hf
      rw [Bool.false_or,← ih]
      conv=>lhs; unfold iterL
      rw [hf]
      rfl
     ·rw [hp] at hf
      simp only [iterL,hf,cond_true,Bool.true_or]
theorem any_loop' {σ:Type} {f:σ→Option (LRes σ α)} {K:Nat→σ→Option α} (st:Nat→σ) (n:Nat) (p:Nat→Bool) {b:Nat} {y:σ} (R:Option α) (h:∀ i,i < n→f (st i)=bif p i then finL R else some (.cont (st (i + 1)))) (hend:f (st n)=some (.brk b y)) {N:Nat} (hN:n < N):afterL (iterL N f (st 0)) K=bif (List.range n).any p then R else K b y:=by
 rw [any_from st p (fin_not R) (brk_not b y) n h hend n 0 (by omega) N hN,← List.range_eq_range']
 cases (List.range n).any p
 ·rfl
 ·cases R<;>rfl
end
open Go.RowKit
inductive Ren (σ:Nat→Nat) (I:Nat→Prop):AVal→AVal→Prop where
 | flat (v:AVal):v.pure0=true→Ren σ I v v
 | op (i off:Nat):I i→Ren σ I (.op i off) (.op (σ i) off)
 | own (i:Nat):I i→Ren σ I (.own i) (.own (σ i))
 | fn (f:FuncId) (cs ds:List AVal):cs.length=ds.length→(∀ (j:Nat) c d,cs[j]?=some c→ds[j]?=some d→Ren σ I c d)→Ren σ I (.fn f cs) (.fn f ds)
 | agg (cs ds:List AVal):cs.length=ds.length→(∀ (j:Nat) c d,cs[j]?=some c→ds[j]?=some d→Ren σ I c d)→Ren σ I (.agg cs) (.agg ds)
theorem Ren.scalar {σ I c d} (r:Ren σ I c d):d.scalar=c.scalar:=by
 cases r<;>rfl
structure Sub (σ:Nat→Nat) (I:Nat→Prop) (hs h:List ABlk):Prop where
 inj:∀ i j,I i→I j→σ i=σ j→i=j
 blk:∀ i,I i→(∃ wr cs ds,hs[i]?=some (ABlk.box wr cs)∧h[σ i]?=some (ABlk.box wr ds)∧cs.length=ds.length∧∀ (j:Nat) c d,cs[j]?=some c→ds[j]?=some d→Ren σ I c d)∨(∃ wr t e xs,hs[i]?=some (ABlk.row wr t e xs)∧h[σ i]?=some (ABlk.row wr t e xs))
theorem Sub.here {σ:Nat→Nat} {I:Nat→Prop} {hs h:List ABlk} (S:Sub σ I hs h) {i:Nat} (hi:I i):Here hs i∧Here h (σ i)∧alive hs i∧alive h (σ i):=by
 rcases S.blk i hi with ⟨wr,cs,ds,a,b,_⟩ | ⟨wr,t,e,xs,a,b⟩
 ·exact ⟨Here.of a (by simp),Here.of b (by simp),⟨_,a,by simp⟩,⟨_,b,by simp⟩⟩
 ·exact ⟨Here.of a (by simp),Here.of b (by simp),⟨_,a,by simp⟩,⟨_,b,by simp⟩⟩
theorem ren_down {σ:Nat→Nat} {I:Nat→Prop} {hs h:List ABlk} (S:Sub σ I hs h) {g gs:Gh} {w:World} (hρ:∀ i,I i→gs.ρ i=g.ρ (σ i)) (hM:∀ b,g.M b→gs.M b) {c d:AVal} (r:Ren σ I c d):∀ {v:Value},Rep h g w d v→Rep hs gs w c v:=by
 induction r with
 | flat v hp=>exact fun r=>pure_rep hM r hp
 | op i off hi=>
   intro v r
   cases r with
   | op _ _ _ a1 a2 a3=>
     refine .op i off v (S.here hi).1 a2 fun wr cs hb=>?_
     rcases S.blk i hi with ⟨wr',cs',ds,e1,e2,_⟩ | ⟨wr',t,e,xs,e1,e2⟩
     ·rw [hρ i hi]; exact a3 _ _ e2
     ·rw [e1] at hb; cases hb
 | own i hi=>
   intro v r
   cases r with
   | own _ _ a1 a2 a3=>
     refine .own i v (S.here hi).1 a2 fun wr t e xs hb=>?_
     rcases S.blk i hi with ⟨wr',cs',ds,e1,e2,_⟩ | ⟨wr',t,e,xs,e1,e2⟩
     ·rw [e1] at hb; cases hb
     ·rw [hρ i hi]; exact a3 _ _ _ _ e2
 | fn f cs ds hl _ ih=>
   intro v r
   cases r with
   | fn _ _ arr a1 a2=>
     refine .fn f cs arr (hl.trans a1) fun j c x hc hx=>?_
     have hj:j < ds.length:=by rw [← hl]; exact (List.getElem?_eq_some_iff.1 hc).1
     exact ih j c _ hc (List.getElem?_eq_getElem hj) (a2 j _ x (List.getElem?_eq_getElem hj) hx)
 | agg cs ds hl _ ih=>
   intro v r
   cases r with
   | agg _ arr a1 a2=>
     refine .agg cs arr (hl.trans a1) fun j c x hc hx=>?_
     have hj:j < ds.length:=by rw [← hl]; exact (List.getElem?_eq_some_iff.1 hc).1
     exact ih j c _ hc (List.getElem?_eq_getElem hj) (a2 j _ x (List.getElem?_eq_getElem hj) hx)
theorem ren_up {σ:Nat→Nat} {I:Nat→Prop} {hs h:List ABlk} (S:Sub σ I hs h) {g gs:Gh} {w:World} (hρ:∀ i,I i→gs.ρ i=g.ρ (σ i)) (hM:∀ b,gs.M b→g.M b) {c d:AVal} (r:Ren σ I c d):∀ {v:Value},Rep hs gs w c v→Rep h g w d v:=by
 induction r with
 | flat v hp=>exact fun r=>pure_rep hM r hp
 | op i off hi=>
   intro v r
   cases r with
   | op _ _ _ a1 a2 a3=>
     refine .op (σ i) off v (S.here hi).2.1 a2 fun wr cs hb=>?_
     rcases S.blk i hi with ⟨wr',cs',ds,e1,e2,_⟩ | ⟨wr',t,e,xs,e1,e2⟩
     ·rw [← hρ i hi]; exact a3 _ _ e1
     ·rw [e2] at hb; cases hb
 | own i hi=>
   intro v r
   cases r with
   | own _ _ a1 a2 a3=>
     refine .own (σ i) v (S.here hi).2.1 a2 fun wr t e xs hb=>?_
     rcases S.blk i hi with ⟨wr',cs',ds,e1,e2,_⟩ | ⟨wr',t,e,xs,e1,e2⟩
     ·rw [e2] at hb; cases hb
     ·rw [← hρ i hi]; exact a3 _ _ _ _ e1
 | fn f cs ds hl _ ih=>
   intro v r
   cases r with
   | fn _ _ arr a1 a2=>
     refine .fn f ds arr (hl.symm.trans a1) fun j d x hd hx=>?_
     have hj:j < cs.length:=by rw [hl]; exact (List.getElem?_eq_some_iff.1 hd).1
     exact ih j _ d (List.getElem?_eq_getElem hj) hd (a2 j _ x (List.getElem?_eq_getElem hj) hx)
 | agg cs ds hl _ ih=>
   intro v r
   cases r with
   | agg _ arr a1 a2=>
     refine .agg ds arr (hl.symm.trans a1) fun j d x hd hx=>?_
     have hj:j < cs.length:=by rw [hl]; exact (List.getElem?_eq_some_iff.1 hd).1
     exact ih j _ d (List.getElem?_eq_getElem hj) hd (a2 j _ x (List.getElem?_eq_getElem hj) hx)
def KSub (K:Nat→Prop) (σ:Nat→Nat) (I:Nat→Prop) (h:List ABlk) (g:Gh) (b:Nat):Prop:=K b∨∃ j,alive h j∧(∀ i,I i→σ i≠j)∧blockOf (g.ρ j)=some b
theorem sub_st {K h g w σ I hs} (s:St K h g w) (hn:∀ i,i < hs.length→I i) (S:Sub σ I hs h):St (KSub K σ I h g) hs ⟨fun i=>g.ρ (σ i),g.M⟩ w where
 blk:=fun i B hB=>by
  have hi:I i:=hn i (List.getElem?_eq_some_iff.1 hB).1
  rcases S.blk i hi with ⟨wr,cs,ds,e1,e2,hl,hr⟩ | ⟨wr,t,e,xs,e1,e2⟩
  ·rw [e1] at hB; cases hB
   obtain ⟨b,arr,t,q1,q2,q3,q4⟩:=s.blk (σ i) _ e2
   refine ⟨b,arr,t,q1,q2,q3.trans hl.symm,fun j c x hc hx=>?_⟩
   have hj:j < ds.length:=by rw [← hl]; exact (List.getElem?_eq_some_iff.1 hc).1
   have rr:=hr j c _ hc (List.getElem?_eq_getElem hj)
   obtain ⟨z1,z2⟩:=q4 j _ x (List.getElem?_eq_getElem hj) hx
   exact ⟨by rw [← rr.scalar]; exact z1,ren_down S (g:=g) (gs:=⟨fun i=>g.ρ (σ i),g.M⟩) (fun _ _=>rfl) (fun _ h=>h) rr z2⟩
  ·rw [e1] at hB; cases hB
   have:=s.blk (σ i) _ e2
   exact RowOk.same this fun _ h=>h
 inj:=fun i j b hi hj h1 h2=>by
  have hi':I i:=by obtain ⟨B,hB,_⟩:=hi; exact hn i (List.getElem?_eq_some_iff.1 hB).1
  have hj':I j:=by obtain ⟨B,hB,_⟩:=hj; exact hn j (List.getElem?_eq_some_iff.1 hB).1
  exact S.inj i j hi' hj' (s.inj _ _ b (S.here hi').2.2.2 (S.here hj').2.2.2 h1 h2)
 sep:=fun i b hi hb=>by
  have hi':I i:=by obtain ⟨B,hB,_⟩:=hi; exact hn i (List.getElem?_eq_some_iff.1 hB).1
  obtain ⟨z1,z2,z3⟩:=s.sep (σ i) b (S.here hi').2.2.2 hb
  refine ⟨fun hk=>?_,z2,z3⟩
  rcases hk with hk | ⟨j,hj,hne,hb'⟩
  ·exact z1 hk
  ·exact hne i hi' (s.inj _ _ b (S.here hi').2.2.2 hj hb hb')
 low:=s.low
 klow:=fun b hk=>by
  rcases hk with hk | ⟨j,hj,_,hb⟩
  ·exact s.klow b hk
  ·exact (s.sep j b hj hb).2.2
theorem sub_post {K h g w σ I hs σ' J hs1 h1 u e w1} {q:Nat} (s:St K h g w) (S0:Sub σ I hs h) (S1:Sub σ' J hs1 h1)
  (hq:J q∧σ' q=h.length) (old:∀ i,J i→i=q∨(I i∧σ' i=σ i)) (hl:h1.length=h.length + 1) (off:∀ j,j < h.length→(∀ i,I i→σ i≠j)→h1[j]?=h[j]?)
  (dead:∀ i,I i→¬ (J i∧i≠q)→h1[σ i]?=some ABlk.dead)
  (hb:∀ i,I i→∀ cs,h[σ i]?=some (ABlk.box false cs)→h1[σ i]?=some (ABlk.box false cs)) (hr:∀ i,I i→∀ t e xs,h[σ i]?≠some (ABlk.row false t e xs)) (hu:Ren σ' J u u)
  (p:CvPost (KSub K σ I h g) hs ⟨fun i=>g.ρ (σ i),g.M⟩ w hs1 .normal u e w1):CvPost K h g w h1 .normal u e w1:=by
 obtain ⟨g1,s1,l1,z,rfl,hz⟩:=p
 let g2:Gh:=⟨fun j=>if j=h.length then g1.ρ q else g.ρ j,g1.M⟩
 have g2l:∀ j,j < h.length→g2.ρ j=g.ρ j:=fun j hj=>if_neg (by omega)
 have σlt:∀ i,I i→σ i < h.length:=fun i hi=>by
  obtain ⟨B,hB,_⟩:=(S0.here hi).2.1
  exact (List.getElem?_eq_some_iff.1 hB).1
 have kept:∀ i,J i→i≠q→I i∧σ' i=σ i:=fun i hi hne=>(old i hi).resolve_left hne
 have hρ:∀ i,J i→g1.ρ i=g2.ρ (σ' i):=fun i hi=>by
  by_cases e:i=q
  ·subst e; rw [hq.2]; exact (if_pos rfl).symm
  ·obtain ⟨hI,hσ⟩:=kept i hi e
   rw [hσ,g2l _ (σlt i hI)]
   rcases S1.blk i hi with ⟨wr,cs,ds,e1,e2,_⟩ | ⟨wr,t,e,xs,e1,e2⟩
   ·obtain ⟨_,_,_,_,r⟩:=l1.box i wr cs (S0.here hI).1 e1
    exact r
   ·obtain ⟨_,_,_,_,r⟩:=l1.row i wr t e xs (S0.here hI).1 e1
    exact r
 have on:∀ j,(∃ i,I i∧σ i=j)∨∀ i,I i→σ i≠j:=fun j=>by
  by_cases hx:∃ i,I i∧σ i=j
  ·exact .inl hx
  ·exact .inr fun i hi e=>hx ⟨i,hi,e⟩
 have cls:∀ j,alive h1 j→(∃ i,J i∧σ' i=j∧alive hs1 i)∨(alive h j∧j < h.length∧∀ i,I i→σ i≠j):=fun j hj=>by
  obtain ⟨B,hB,hd⟩:=hj
  have hlt:j < h.length + 1:=by rw [← hl]; exact (List.getElem?_eq_some_iff.1 hB).1
  by_cases e:j=h.length
  ·exact .inl ⟨q,hq.1,by rw [hq.2,e],(S1.here hq.1).2.2.1⟩
  ·rcases on j with ⟨i,hi,rfl⟩ | hne
   ·by_cases hk:J i∧i≠q
    ·exact .inl ⟨i,hk.1,(kept i hk.1 hk.2).2,(S1.here hk.1).2.2.1⟩
    ·rw [dead i hi hk] at hB
     exact absurd (Option.some.inj hB).symm hd
   ·exact .inr ⟨⟨B,by rw [← off j (by omega) hne]; exact hB,hd⟩,by omega,hne⟩
 have le:Le K h g w h1 g2 w1:={
  len:=by omega
  here:=fun j hj=>by
   have hjl:=hj.lt
   rcases on j with ⟨i,hi,rfl⟩ | hne
   ·by_cases hk:J i∧i≠q
    ·rw [← (kept i hk.1 hk.2).2]; exact (S1.here hk.1).2.1
    ·exact ⟨_,dead i hi hk,by simp⟩
   ·obtain ⟨B,hB,hd⟩:=hj
    exact ⟨B,by rw [off j hjl hne]; exact hB,hd⟩
  m:=l1.m
  new:=fun b hb=>(l1.new b hb).elim .inl fun hk=>.inr fun h=>hk (.inl h)
  mw:=l1.mw
  k:=fun b hk=>l1.k b (.inl hk)
  box:=fun j wr cs' hj hx=>by
   have hjl:=hj.lt
   rcases on j with ⟨i,hi,rfl⟩ | hne
   ·by_cases hk:J i∧i≠q
    ·have hσ:=(kept i hk.1 hk.2).2
     rcases S1.blk i hk.1 with ⟨wr1,cs1,ds1,e1,e2,q1,_⟩ | ⟨wr1,t,e,xs,e1,e2⟩
     ·rw [hσ,hx] at e2; cases e2
      obtain ⟨wr0,cs0,f1,f2,_⟩:=l1.box i _ cs1 (S0.here hi).1 e1
      rcases S0.blk i hi with ⟨wr2,cs2,ds2,k1,k2,k3,_⟩ | ⟨wr2,t,e,xs,k1,k2⟩
      ·rw [f1] at k1; cases k1
       exact ⟨_,_,k2,by omega,g2l _ hjl⟩
      ·rw [f1] at k1; cases k1
     ·rw [hσ,hx] at e2; cases e2
    ·rw [dead i hi hk] at hx; cases hx
   ·rw [off j hjl hne] at hx
    exact ⟨_,_,hx,rfl,g2l _ hjl⟩
  row:=fun j wr t e xs' hj hx=>by
   have hjl:=hj.lt
   rcases on j with ⟨i,hi,rfl⟩ | hne
   ·by_cases hk:J i∧i≠q
    ·have hσ:=(kept i hk.1 hk.2).2
     rcases S1.blk i hk.1 with ⟨wr1,cs1,ds1,e1,e2,q1,_⟩ | ⟨wr1,t1,ee,xs,e1,e2⟩
     ·rw [hσ,hx] at e2; cases e2
     ·rw [hσ,hx] at e2; cases e2
      obtain ⟨wr0,xs0,f1,f2,_⟩:=l1.row i _ _ _ _ (S0.here hi).1 e1
      rcases S0.blk i hi with ⟨wr2,cs2,ds2,k1,k2,_⟩ | ⟨wr2,t2,e2',xs2,k1,k2⟩
      ·rw [f1] at k1; cases k1
      ·rw [f1] at k1; cases k1
       exact ⟨_,_,k2,f2,g2l _ hjl⟩
    ·rw [dead i hi hk] at hx; cases hx
   ·rw [off j hjl hne] at hx
    exact ⟨_,_,hx,fun _=>rfl,g2l _ hjl⟩
  lp:=fun j st pend ts ps aw bo hj hx=>by
   have hjl:=hj.lt
   rcases on j with ⟨i,hi,rfl⟩ | hne
   ·by_cases hk:J i∧i≠q
    ·have hσ:=(kept i hk.1 hk.2).2
     rcases S1.blk i hk.1 with ⟨wr1,cs1,ds1,e1,e2,_⟩ | ⟨wr1,t1,ee,xs,e1,e2⟩
     ·rw [hσ,hx] at e2; cases e2
     ·rw [hσ,hx] at e2; cases e2
    ·rw [dead i hi hk] at hx; cases hx
   ·rw [off j hjl hne] at hx
    exact ⟨_,_,hx,g2l _ hjl⟩
  lockb:=fun j cs hx=>by
   rcases on j with ⟨i,hi,rfl⟩ | hne
   ·exact hb i hi _ hx
   ·rw [off j (List.getElem?_eq_some_iff.1 hx).1 hne]; exact hx
  lockr:=fun j t e xs hx=>by
   rcases on j with ⟨i,hi,rfl⟩ | hne
   ·exact absurd hx (hr i hi _ _ _)
   ·rw [off j (List.getElem?_eq_some_iff.1 hx).1 hne]; exact hx
  os:=l1.os
  tape:=l1.tape
  output:=l1.output
  size:=l1.size }
 refine ⟨g2,?_,le,z,rfl,ren_up S1 (g:=g2) (gs:=g1) hρ (fun _ h=>h) hu hz⟩
 have part:∀ i,J i→∀ B,h1[σ' i]?=some B→BlkOk h1 g2 w1 (σ' i) B:=fun i hi B hB=>by
  rcases S1.blk i hi with ⟨wr,cs,ds,e1,e2,q1,q2⟩ | ⟨wr,t,e,xs,e1,e2⟩
  ·rw [e2] at hB; cases hB
   obtain ⟨b,arr,t,f1,f2,f3,f4⟩:=s1.blk i _ e1
   refine ⟨b,arr,t,by rw [← hρ i hi]; exact f1,f2,f3.trans q1,fun k d x hd hx=>?_⟩
   have hk:k < cs.length:=by rw [q1]; exact (List.getElem?_eq_some_iff.1 hd).1
   have rr:=q2 k _ d (List.getElem?_eq_getElem hk) hd
   obtain ⟨z1,z2⟩:=f4 k _ x (List.getElem?_eq_getElem hk) hx
   exact ⟨by rw [rr.scalar]; exact z1,ren_up S1 (g:=g2) (gs:=g1) hρ (fun _ h=>h) rr z2⟩
  ·rw [e2] at hB; cases hB
   have:=s1.blk i _ e1
   show RowOk h1 g2 w1 (g2.ρ (σ' i)) t e xs
   rw [← hρ i hi]
   exact RowOk.same this fun _ h=>h
 exact {
  blk:=fun j B hB=>by
   have hlt:j < h.length + 1:=by rw [← hl]; exact (List.getElem?_eq_some_iff.1 hB).1
   by_cases e:j=h.length
   ·subst e
    rw [← hq.2] at hB ⊢
    exact part q hq.1 B hB
   ·rcases on j with ⟨i,hi,rfl⟩ | hne
    ·by_cases hk:J i∧i≠q
     ·have hσ:=(kept i hk.1 hk.2).2
      rw [← hσ] at hB ⊢
      exact part i hk.1 B hB
     ·rw [dead i hi hk] at hB; cases hB; trivial
    ·rw [off j (by omega) hne] at hB
     have o:=s.blk j B hB
     exact o.mono le (g2l _ (by omega)) fun n hd hn=>l1.k n (.inr ⟨j,⟨B,hB,hd⟩,hne,hn⟩)
  inj:=fun i j b hi hj h1' h2'=>by
   rcases cls i hi with ⟨i0,a1,rfl,a3⟩ | ⟨a1,a2,a3⟩
   ·rcases cls j hj with ⟨j0,b1',rfl,b3⟩ | ⟨b1',b2,b3⟩
    ·rw [s1.inj i0 j0 b a3 b3 (by rw [hρ i0 a1]; exact h1') (by rw [hρ j0 b1']; exact h2')]
    ·exact absurd (.inr ⟨j,b1',b3,by rw [← g2l j b2]; exact h2'⟩) (s1.sep i0 b a3 (by rw [hρ i0 a1]; exact h1')).1
   ·rcases cls j hj with ⟨j0,b1',rfl,b3⟩ | ⟨b1',b2,b3⟩
    ·exact absurd (.inr ⟨i,a1,a3,by rw [← g2l i a2]; exact h1'⟩) (s1.sep j0 b b3 (by rw [hρ j0 b1']; exact h2')).1
    ·exact s.inj i j b a1 b1' (by rw [← g2l i a2]; exact h1') (by rw [← g2l j b2]; exact h2')
  sep:=fun j b hj hb'=>by
   rcases cls j hj with ⟨i,a1,rfl,a3⟩ | ⟨a1,a2,a3⟩
   ·obtain ⟨z1,z2,z3⟩:=s1.sep i b a3 (by rw [hρ i a1]; exact hb')
    exact ⟨fun hk=>z1 (.inl hk),z2,z3⟩
   ·rw [g2l j a2] at hb'
    obtain ⟨z1,z2,z3⟩:=s.sep j b a1 hb'
    refine ⟨z1,fun hm=>?_,Nat.lt_of_lt_of_le z3 l1.size⟩
    rcases l1.new b hm with hm | hk
    ·exact z2 hm
    ·exact hk (.inr ⟨j,a1,a3,hb'⟩)
  low:=s1.low
  klow:=fun b hk=>Nat.lt_of_lt_of_le (s.klow b hk) l1.size }
abbrev HpSh:Sh:=.recd (.cons (.int .i64) (.cons (.int .i64) .nil))
abbrev GsSh:Sh:=.recd (.cons (.int .i64) (.cons (.int .i64) (.cons (.int .i64) .nil)))
def hmB (t:Int):Bool:=t==0 || t==1
def clL (x:Int):Int:=if -96 < (if x < 96 then x else 96) then (if x < 96 then x else 96) else -96
def nxE (e:Int):Int:=IntKind.i64.wrap (e - 1)
def nxL (l t p:Int):Int:=clL (IntKind.i64.wrap (l + IntKind.i64.wrap ((bif t==0 then 1 else -1) * p)))
def nxT (t p:Int):Int:=bif decide (p > 0) then IntKind.i64.wrap (1 - t) else t
def nxA (e l t:Int):AVal:=.agg [.int .i64 e,.int .i64 l,.int .i64 t]
theorem knx_text (N n0:Nat) (α:Type) (e l t p:Int) (k:AOut→Option α):evFn real tab ((twY fsF spC).env real tab N (n0 + 12)) N Tryz.f32 α [.agg [.int .i64 e,.int .i64 l,.int .i64 t],.int .i64 p] k =
 if 0≤t∧t < ((2:Nat):Int) then bif t==((0:Nat):Int) then bif decide (p > 0) then k (.ret (nxA (nxE e) (clL (IntKind.i64.wrap (l + IntKind.i64.wrap (1 * p))))
 (IntKind.i64.wrap (1 - t)))) else k (.ret (nxA (nxE e) (clL (IntKind.i64.wrap (l + IntKind.i64.wrap (1 * p)))) t)) else bif t==((0 + 1:Nat):Int) then bif decide (p > 0) then k
 (.ret (nxA (nxE e) (clL (IntKind.i64.wrap (l + IntKind.i64.wrap (-1 * p)))) (IntKind.i64.wrap (1 - t)))) else k (.ret (nxA (nxE e) (clL (IntKind.i64.wrap (l + IntKind.i64.wrap (-1 *
 p)))) t)) else none else none:=by kernel_rfl
theorem knx_plain {α:Type} (e l t p:Int) (ht:hmB t=true) (k:AOut→Option α):(if 0≤t∧t < ((2:Nat):Int) then
  bif t==((0:Nat):Int) then bif decide (p > 0) then k (.ret (nxA (nxE e) (clL (IntKind.i64.wrap (l + IntKind.i64.wrap (1 * p)))) (IntKind.i64.wrap (1 - t)))) else k (.ret (nxA (nxE e) (clL (IntKind.i64.wrap (l + IntKind.i64.wrap (1 * p)))) t))
  else bif t==((0 + 1:Nat):Int) then bif decide (p > 0) then k (.ret (nxA (nxE e) (clL (IntKind.i64.wrap (l + IntKind.i64.wrap (-1 * p)))) (IntKind.i64.wrap (1 - t)))) else k (.ret (nxA (nxE e) (clL (IntKind.i64.wrap (l + IntKind.i64.wrap (-1 * p)))) t))
  else none
 else none)=k (.ret (nxA (nxE e) (nxL l t p) (nxT t p))):=by
 unfold hmB at ht
 rw [Bool.or_eq_true,beq_iff_eq,beq_iff_eq] at ht
 unfold nxL nxT
 rcases ht with rfl | rfl
 ·rw [if_pos (by omega)]
  cases decide (p > 0)<;>rfl
 ·rw [if_pos (by omega)]
  cases decide (p > 0)<;>rfl
noncomputable def knxS:Fsp:=fun _ args k=>match args with
 | [.agg [.int .i64 e,.int .i64 l,.int .i64 t],.int .i64 p]=>bif hmB t then k (.ret (nxA (nxE e) (nxL l t p) (nxT t p))) else none
 | _=>none
theorem knxS_ok:FspOk Tryz.prog 32 knxS:=tower_Y fsF_ok spC_ok ⟨Tryz.func32,fun _ _=>by kernel_rfl⟩ (by intro α args k; unfold knxS; split<;>simp only [cond_bind,Option.bind_some,Option.bind_none]) fun args out hSm hEq=>by
 unfold knxS at hEq
 split at hEq
 ·rename_i e l t p
  cases ht:hmB t
  ·rw [ht] at hEq; cases hEq
  ·rw [ht] at hEq
   exact ⟨0,12,((knx_text 0 0 AOut e l t p some).trans (knx_plain e l t p ht some)).trans hEq⟩
 ·cases hEq
def suV (b:Bool):Int:=bif b then 65536 else 0
def hpA (x y:Int):AVal:=.agg [.int .i64 x,.int .i64 y]
theorem ksu_text (N n0:Nat) (α:Type) (b:Bool) (k:AOut→Option α):evFn real tab ((twY fsF spC).env real tab N (n0 + 12)) N Tryz.f51 α [.bool b] k=bif b then k (.ret (hpA 65536 65536)) else k (.ret (hpA 0 0)):=by kernel_rfl
noncomputable def ksuS:Fsp:=fun _ args k=>match args with
 | [.bool b]=>k (.ret (hpA (suV b) (suV b)))
 | _=>none
theorem ksuS_ok:FspOk Tryz.prog 51 ksuS:=tower_Y fsF_ok spC_ok ⟨Tryz.func51,fun _ _=>by kernel_rfl⟩ (by intro α args k; unfold ksuS; split<;>rfl) fun args out hSm hEq=>by
 unfold ksuS at hEq
 split at hEq
 ·rename_i b
  refine ⟨0,12,(ksu_text 0 0 AOut b some).trans (Eq.trans ?_ hEq)⟩
  cases b<;>rfl
 ·cases hEq
/-! What is chosen. -/
def mxI (a b:Int):Int:=if a < b then b else a
def mnI (a b:Int):Int:=if b < a then b else a
noncomputable def kc1S:Fsp:=fun _ args k=>match args with
 | [.int .i64 a,.int .i64 b]=>k (.ret (.int .i64 (mxI a b)))
 | _=>none
noncomputable def kc2S:Fsp:=fun _ args k=>match args with
 | [.int .i64 a,.int .i64 b]=>k (.ret (.int .i64 (mnI a b)))
 | _=>none
theorem kc1_text (N n0:Nat) (α:Type) (a b:Int) (k:AOut→Option α):evFn real tab ((twY fsF spC).env real tab N (n0 + 12)) N Tryz.f96 α [.int .i64 a,.int .i64 b] k=k (.ret (.int .i64 (mxI a b))):=by kernel_rfl
theorem kc2_text (N n0:Nat) (α:Type) (a b:Int) (k:AOut→Option α):evFn real tab ((twY fsF spC).env real tab N (n0 + 12)) N Tryz.f97 α [.int .i64 a,.int .i64 b] k=k (.ret (.int .i64 (mnI a b))):=by kernel_rfl
theorem kc1S_ok:FspOk Tryz.prog 96 kc1S:=tower_Y fsF_ok spC_ok ⟨Tryz.func96,fun _ _=>by kernel_rfl⟩ (by intro α args k; unfold kc1S; split<;>rfl) fun args out hSm hEq=>by
 unfold kc1S at hEq
 split at hEq
 ·rename_i a b
  exact ⟨0,12,(kc1_text 0 0 AOut a b some).trans hEq⟩
 ·cases hEq
theorem kc2S_ok:FspOk Tryz.prog 97 kc2S:=tower_Y fsF_ok spC_ok ⟨Tryz.func97,fun _ _=>by kernel_rfl⟩ (by intro α args k; unfold kc2S; split<;>rfl) fun args out hSm hEq=>by
 unfold kc2S at hEq
 split at hEq
 ·rename_i a b
  exact ⟨0,12,(kc2_text 0 0 AOut a b some).trans hEq⟩
 ·cases hEq
noncomputable def fsK1:FuncId→Option Fsp:=fun g=>
 if g=32 then some knxS else
 if g=51 then some ksuS else
 if g=96 then some kc1S else
 if g=97 then some kc2S else
 fsF g
theorem fsK1_ok:FsOk fsK1:=
 fs_cons knxS_ok <|
 fs_cons ksuS_ok <|
 fs_cons kc1S_ok <|
 fs_cons kc2S_ok <|
 fsF_ok
def opT (t a b:Int):Int:=bif t==0 then mxI a b else mnI a b
def chN (op:Int→Int→Int) (L:List (Int × Int × Unit)):Nat→Int × Int
 | 0=>((L.getD 0 (0,0,())).1,(L.getD 0 (0,0,())).2.1)
 | i + 1=>(op (chN op L i).1 (L.getD (i + 1) (0,0,())).1,op (chN op L i).2 (L.getD (i + 1) (0,0,())).2.1)
def chX (op:Int→Int→Int) (L:List (Int × Int × Unit)):Int × Int:=chN op L (L.length - 1)
def chF {α:Type} (op:Int→Int→Int) (L:List (Int × Int × Unit)) (x:Int × Int × Int × Unit):Option (LRes (Int × Int × Int × Unit) α):=
 bif decide (x.1 < ((List.drop (Int.toNat 1) L).length:Int)) then
  if 0≤x.1∧x.1 < ((List.drop (Int.toNat 1) L).length:Int) then
   some (.cont (IntKind.i64.wrap (x.1 + 1),op x.2.1 ((List.drop (Int.toNat 1) L).getD x.1.toNat (0,0,())).1,op x.2.2.1 ((List.drop (Int.toNat 1) L).getD x.1.toNat (0,0,())).2.1,()))
  else none
 else some (.brk 0 (x.1,x.2.1,x.2.2.1,()))
def chT {α:Type} (N:Nat) (op:Int→Int→Int) (L:List (Int × Int × Unit)) (k:AOut→Option α):Option α:=
 if 0≤(0:Int)∧(0:Int) < (L.length:Int) then if 0≤(1:Int)∧(1:Int)≤(L.length:Int) then
  afterL (iterL N (chF op L) (0,(L.getD (Int.toNat 0) (0,0,())).1,(L.getD (Int.toNat 0) (0,0,())).2.1,())) fun id y=>if id=0 then k (.ret (hpA y.2.1 y.2.2.1)) else none
 else none else none
set_option maxRecDepth 100000 in
theorem kch0_text (N n0:Nat) (α:Type) (L:List (Int × Int × Unit)) (k:AOut→Option α):evFn real tab ((twY fsK1 spC).env real tab N (n0 + 12)) N Tryz.f52 α [.ro HpSh L,.int .i64 0] k=chT N mxI L k:=by kernel_rfl
set_option maxRecDepth 100000 in
theorem kch1_text (N n0:Nat) (α:Type) (L:List (Int × Int × Unit)) (k:AOut→Option α):evFn real tab ((twY fsK1 spC).env real tab N (n0 + 12)) N Tryz.f52 α [.ro HpSh L,.int .i64 1] k=chT N mnI L k:=by kernel_rfl
theorem chT_eq {α:Type} (op:Int→Int→Int) (L:List (Int × Int × Unit)) (h0:0 < L.length) (hl:L.length≤maxLen) (k:AOut→Option α):chT (L.length + 1) op L k=k (.ret (hpA (chX op L).1 (chX op L).2)):=by
 have hd:(List.drop (Int.toNat 1) L).length=L.length - 1:=List.length_drop
 have hg:∀ i,(List.drop (Int.toNat 1) L).getD i (0,0,())=L.getD (i + 1) (0,0,()):=fun i=>by
  rw [List.getD_eq_getElem?_getD,List.getD_eq_getElem?_getD,List.getElem?_drop,show Int.toNat 1 + i=i + 1 from Nat.add_comm _ _]
 unfold chT
 rw [if_pos ⟨by omega,by omega⟩,if_pos ⟨by omega,by omega⟩]
 refine (count_loop (f:=chF op L) (fun i=>((i:Int),(chN op L i).1,(chN op L i).2,())) (L.length - 1) (fun i hi=>?_) (y:=(((L.length - 1:Nat):Int),(chX op L).1,(chX op L).2,())) (b:=0) ?_ (by omega)).trans ?_
 ·unfold chF
  simp only [hd,lt_len hi,cond_true,in_len hi,if_pos,and_self,decide_true,Int.toNat_natCast,wrap_next hi (by omega),hg]
  rfl
 ·unfold chF
  simp only [hd,not_lt_len,cond_false]
  rfl
 ·rw [if_pos rfl]
def choB (L:List (Int × Int × Unit)) (t:Int):Bool:=decide (0 < L.length)&&hmB t
noncomputable def kchS:Fsp:=fun _ args k=>match args with
 | [.ro (.recd (.cons (.int .i64) (.cons (.int .i64) .nil))) L,.int .i64 t]=>bif choB L t then k (.ret (hpA (chX (opT t) L).1 (chX (opT t) L).2)) else none
 | _=>none
theorem kchS_ok:FspOk Tryz.prog 52 kchS:=tower_Y fsK1_ok spC_ok ⟨Tryz.func52,fun _ _=>by kernel_rfl⟩ (by intro α args k; unfold kchS; split<;>simp only [cond_bind,Option.bind_some,Option.bind_none]) fun args out hSm hEq=>by
 unfold kchS at hEq
 split at hEq
 ·rename_i L t
  have hl:=(hSm _ (.head _)).len
  cases hc:choB L t
  ·rw [hc] at hEq; cases hEq
  ·rw [hc] at hEq
   unfold choB at hc
   rw [Bool.and_eq_true,decide_eq_true_eq] at hc
   obtain ⟨h0,ht⟩:=hc
   unfold hmB at ht
   rw [Bool.or_eq_true,beq_iff_eq,beq_iff_eq] at ht
   rcases ht with rfl | rfl
   ·exact ⟨List.length (α:=Int × Int × Unit) L + 1,12,((kch0_text _ 0 AOut L some).trans (chT_eq mxI L h0 hl some)).trans hEq⟩
   ·exact ⟨List.length (α:=Int × Int × Unit) L + 1,12,((kch1_text _ 0 AOut L some).trans (chT_eq mnI L h0 hl some)).trans hEq⟩
 ·cases hEq
/-! Counts. -/
def cnO (n:Int):Bool:=decide (0≤n)&&decide (n≤1000000)
def cntW (c:List Int):Bool:=decide (1≤c.length)&&(decide (c.length≤49)&&!(List.range c.length).any fun i=>!cnO (c.getD i 0))
def cnF {α:Type} (c:List Int) (k:AOut→Option α) (x:Int × Unit):Option (LRes (Int × Unit) α):=
 bif decide (x.1 < (c.length:Int)) then
  if 0≤x.1∧x.1 < (c.length:Int) then
   bif decide (0≤c.getD x.1.toNat 0) then bif !decide (c.getD x.1.toNat 0≤1000000) then finL (k (b1 !decide (x.1 ≥ 0))) else some (.cont (IntKind.i64.wrap (x.1 + 1),()))
   else finL (k (b1 !decide (x.1 ≥ 0)))
  else none
 else some (.brk 0 (x.1,()))
theorem skc_text (N n0:Nat) (α:Type) (c:List Int) (k:AOut→Option α):evFn real tab ((twY fsK1 spC).env real tab N (n0 + 12)) N Tryz.f161 α [.ro (.int .i64) c] k =
 bif decide (1≤(c.length:Int)) then bif decide ((c.length:Int)≤49) then afterL (iterL N (cnF c k) (0,())) fun id _=>if id=0 then k (b1 !false) else none else k (b1
 false) else k (b1 false):=by kernel_rfl
theorem skc_plain {α:Type} (c:List Int) (k:AOut→Option α):(bif decide (1≤(c.length:Int)) then bif decide ((c.length:Int)≤49) then afterL (iterL 60 (cnF c k) (0,())) fun id _=>if id=0 then k (b1 !false) else none else k (b1 false) else k (b1 false))=k (b1 (cntW c)):=by
 unfold cntW
 rw [show decide (1≤(c.length:Int))=decide (1≤c.length) from decide_eq_decide.2 (by omega),show decide ((c.length:Int)≤49)=decide (c.length≤49) from decide_eq_decide.2 (by omega)]
 cases decide (1≤c.length)
 ·rfl
 by_cases h:c.length≤49
 case neg=>rw [decide_eq_false h]; rfl
 rw [decide_eq_true h,cond_true,cond_true,Bool.true_and,Bool.true_and]
 have hmx:c.length≤maxLen:=by have:maxLen=9223372036854775807:=rfl; omega
 refine (any_loop' (f:=cnF c k) (fun i:Nat=>((i:Int),())) c.length (fun i=>!cnO (c.getD i 0)) (k (b1 false)) (fun i hi=>?_) (y:=((c.length:Int),())) (b:=0) ?_ (by omega)).trans ?_
 ·unfold cnF cnO
  simp only [lt_len hi,cond_true,in_len hi,if_pos,and_self,decide_true,Int.toNat_natCast,wrap_next hi hmx]
  cases decide (0≤c.getD i 0)<;>cases decide (c.getD i 0≤1000000)<;>rfl
 ·unfold cnF
  simp only [not_lt_len,cond_false]
 ·rw [if_pos rfl]
  cases (List.range c.length).any fun i=>!cnO (c.getD i 0)<;>rfl
noncomputable def skcS:Fsp:=fun _ args k=>match args with
 | [.ro (.int .i64) c]=>k (b1 (cntW c))
 | _=>none
theorem skcS_ok:FspOk Tryz.prog 161 skcS:=tower_Y fsK1_ok spC_ok ⟨Tryz.func161,fun _ _=>by kernel_rfl⟩ (by intro α args k; unfold skcS; split<;>rfl) fun args out hSm hEq=>by
 unfold skcS at hEq
 split at hEq
 ·rename_i c
  exact ⟨60,12,((skc_text 60 0 AOut c some).trans (skc_plain c some)).trans hEq⟩
 ·cases hEq
/-! A bound of a mean. -/
def mnF {α:Type} (op:Int→Int→Int) (v:List Int) (x:Int × Int × Unit):Option (LRes (Int × Int × Unit) α):=
 bif decide (x.2.1 < (v.length:Int)) then
  if 0≤x.2.1∧x.2.1 < (v.length:Int) then some (.cont (op x.1 (v.getD x.2.1.toNat 0),IntKind.i64.wrap (x.2.1 + 1),())) else none
 else some (.brk 0 (x.1,x.2.1,()))
def toF {α:Type} (c v:List Int) (x:Int × Int × Unit):Option (LRes (Int × Int × Unit) α):=
 bif decide (x.2.1 < (c.length:Int)) then
  if 0≤x.2.1∧x.2.1 < (c.length:Int) then if 0≤x.2.1∧x.2.1 < (v.length:Int) then some (.cont (IntKind.i64.wrap (x.1 + IntKind.i64.wrap (c.getD x.2.1.toNat 0 * v.getD x.2.1.toNat 0)),IntKind.i64.wrap (x.2.1 + 1),())) else none else none
 else some (.brk 0 (x.1,x.2.1,()))
def suF {α:Type} (c:List Int) (x:Int × Int × Unit):Option (LRes (Int × Int × Unit) α):=
 bif decide (x.2.1 < (c.length:Int)) then
  if 0≤x.2.1∧x.2.1 < (c.length:Int) then some (.cont (IntKind.i64.wrap (x.1 + c.getD x.2.1.toNat 0),IntKind.i64.wrap (x.2.1 + 1),())) else none
 else some (.brk 0 (x.1,x.2.1,()))
def meT {α:Type} (N:Nat) (op:Int→Int→Int) (how:Int) (c v:List Int) (d:Int) (P:Option α) (k:AOut→Option α):Option α:=
 bif decide ((v.length:Int) < 1) then P else
 if 0≤(0:Int)∧(0:Int) < (v.length:Int) then
  afterL (iterL N (mnF op v) (v.getD (Int.toNat 0) 0,1,())) fun id x=>if id=0 then
   afterL (iterL N (toF c v) (IntKind.i64.wrap (d * x.1),0,())) fun id y=>if id=0 then
    afterL (iterL N (suF c) (0,0,())) fun id z=>if id=0 then
     if IntKind.i64.wrap (z.1 + d)=0 then none else if IntKind.i64.wrap (z.1 + d)=0 then none else
     k (.ret (.int .i64 (IntKind.i64.wrap (IntKind.i64.wrap (y.1.tdiv (IntKind.i64.wrap (z.1 + d))) + slV (y.1.tmod (IntKind.i64.wrap (z.1 + d))) 1 (IntKind.i64.wrap (z.1 + d)) how))))
    else none
   else none
  else none
 else none
set_option maxRecDepth 100000 in
theorem smnA_text (N n0:Nat) (α:Type) (c v:List Int) (d:Int) (k:AOut→Option α):evFn real tab ((twY fsK1 spC).env real tab N (n0 + 12)) N Tryz.f164 α [.ro (.int .i64) c,.ro (.int .i64) v,.int .i64 d,.fn 165 [],.int .i64 1] k=meT N mnI 1 c v d (k (.pan (.ifc 9 (.str ⟨#[115,108,105,99,101,115,46,77,105,110,58,32,101,109,112,116,121,32,108,105,115,116]⟩)))) k:=by kernel_rfl
set_option maxRecDepth 100000 in
theorem smnB_text (N n0:Nat) (α:Type) (c v:List Int) (d:Int) (k:AOut→Option α):evFn real tab ((twY fsK1 spC).env real tab N (n0 + 12)) N Tryz.f164 α [.ro (.int .i64) c,.ro (.int .i64) v,.int .i64 d,.fn 166 [],.int .i64 2] k=meT N mxI 2 c v d (k (.pan (.ifc 9 (.str ⟨#[115,108,105,99,101,115,46,77,97,120,58,32,101,109,112,116,121,32,108,105,115,116]⟩)))) k:=by kernel_rfl
def mnV (op:Int→Int→Int) (v:List Int):Nat→Int
 | 0=>v.getD 0 0
 | i + 1=>op (mnV op v i) (v.getD (i + 1) 0)
def toV (c v:List Int) (x:Int):Nat→Int
 | 0=>x
 | i + 1=>IntKind.i64.wrap (toV c v x i + IntKind.i64.wrap (c.getD i 0 * v.getD i 0))
def suW (c:List Int):Nat→Int
 | 0=>0
 | i + 1=>IntKind.i64.wrap (suW c i + c.getD i 0)
def meN (c:List Int) (d:Int):Int:=IntKind.i64.wrap (suW c c.length + d)
def meO (op:Int→Int→Int) (c v:List Int) (d:Int):Int:=toV c v (IntKind.i64.wrap (d * mnV op v (v.length - 1))) c.length
def meW (op:Int→Int→Int) (how:Int) (c v:List Int) (d:Int):Int:=IntKind.i64.wrap (IntKind.i64.wrap ((meO op c v d).tdiv (meN c d)) + slV ((meO op c v d).tmod (meN c d)) 1 (meN c d) how)
def meB (c v:List Int) (d:Int):Bool:=decide (1≤v.length)&&(decide (c.length≤v.length)&&!(meN c d==0))
theorem meT_eq {α:Type} (op:Int→Int→Int) (how:Int) (c v:List Int) (d:Int) (hB:meB c v d=true) (hv:v.length≤maxLen) (P:Option α) (k:AOut→Option α):meT (v.length + 1) op how c v d P k=k (.ret (.int .i64 (meW op how c v d))):=by
 unfold meB at hB
 simp only [Bool.and_eq_true,decide_eq_true_eq,Bool.not_eq_true',beq_eq_false_iff_ne] at hB
 obtain ⟨h1,h2,h3⟩:=hB
 unfold meT
 rw [decide_eq_false (show ¬ (v.length:Int) < 1 by omega),cond_false,if_pos ⟨by omega,by omega⟩]
 refine (count_loop (f:=mnF op v) (fun i=>(mnV op v i,((i + 1:Nat):Int),())) (v.length - 1) (fun i hi=>?_) (y:=(mnV op v (v.length - 1),(v.length:Int),())) (b:=0) ?_ (by omega)).trans ?_
 ·unfold mnF
  have hi':i + 1 < v.length:=by omega
  simp only [lt_len hi',cond_true,in_len hi',if_pos,and_self,decide_true,Int.toNat_natCast,wrap_next hi' hv,mnV]
 ·have e:v.length - 1 + 1=v.length:=by omega
  rw [e]
  unfold mnF
  simp only [not_lt_len,cond_false]
 rw [if_pos rfl]
 refine (count_loop (f:=toF c v) (fun i=>(toV c v (IntKind.i64.wrap (d * mnV op v (v.length - 1))) i,(i:Int),())) c.length (fun i hi=>?_) (y:=(meO op c v d,(c.length:Int),())) (b:=0) ?_ (by omega)).trans ?_
 ·unfold toF
  simp only [lt_len hi,cond_true,in_len hi,in_len (show i < v.length by omega),if_pos,and_self,decide_true,Int.toNat_natCast,wrap_next hi (by omega),toV]
 ·unfold toF
  simp only [not_lt_len,cond_false]
  rfl
 rw [if_pos rfl]
 refine (count_loop (f:=suF c) (fun i=>(suW c i,(i:Int),())) c.length (fun i hi=>?_) (y:=(suW c c.length,(c.length:Int),())) (b:=0) ?_ (by omega)).trans ?_
 ·unfold suF
  simp only [lt_len hi,cond_true,in_len hi,if_pos,and_self,decide_true,Int.toNat_natCast,wrap_next hi (by omega),suW]
 ·unfold suF
  simp only [not_lt_len,cond_false]
 rw [if_pos rfl]
 show (if meN c d=0 then none else if meN c d=0 then none else _)=_
 rw [if_neg h3,if_neg h3]
 rfl
noncomputable def smeS:Fsp:=fun _ args k=>match args with
 | [.ro (.int .i64) c,.ro (.int .i64) v,.int .i64 d,.fn g [],.int .i64 how]=>
   bif g==165&&how==1 then (bif meB c v d then k (.ret (.int .i64 (meW mnI 1 c v d))) else none) else
   bif g==166&&how==2 then (bif meB c v d then k (.ret (.int .i64 (meW mxI 2 c v d))) else none) else none
 | _=>none
theorem smeS_ok:FspOk Tryz.prog 164 smeS:=tower_Y fsK1_ok spC_ok ⟨Tryz.func164,fun _ _=>by kernel_rfl⟩ (by intro α args k; unfold smeS; split<;>simp only [cond_bind,Option.bind_some,Option.bind_none]) fun args out hSm hEq=>by
 unfold smeS at hEq
 split at hEq
 ·rename_i c v d g how
  have hv:List.length (α:=Int) v≤maxLen:=(hSm _ (.tail _ (.head _))).len
  cases h1:g==165&&how==1
  ·rw [h1,cond_false] at hEq
   cases h2:g==166&&how==2
   ·rw [h2] at hEq; cases hEq
   ·rw [h2,cond_true] at hEq
    rw [Bool.and_eq_true,beq_iff_eq,beq_iff_eq] at h2
    obtain ⟨rfl,rfl⟩:=h2
    cases hB:meB c v d
    ·rw [hB] at hEq; cases hEq
    ·rw [hB] at hEq
     exact ⟨List.length (α:=Int) v + 1,12,((smnB_text _ 0 AOut c v d some).trans (meT_eq mxI 2 c v d hB hv _ some)).trans hEq⟩
  ·rw [h1,cond_true] at hEq
   rw [Bool.and_eq_true,beq_iff_eq,beq_iff_eq] at h1
   obtain ⟨rfl,rfl⟩:=h1
   cases hB:meB c v d
   ·rw [hB] at hEq; cases hEq
   ·rw [hB] at hEq
    exact ⟨List.length (α:=Int) v + 1,12,((smnA_text _ 0 AOut c v d some).trans (meT_eq mnI 1 c v d hB hv _ some)).trans hEq⟩
 ·cases hEq
noncomputable def fsK2:FuncId→Option Fsp:=fun g=>
 if g=52 then some kchS else
 if g=161 then some skcS else
 if g=164 then some smeS else
 fsK1 g
theorem fsK2_ok:FsOk fsK2:=
 fs_cons kchS_ok <|
 fs_cons skcS_ok <|
 fs_cons smeS_ok <|
 fsK1_ok
theorem suW_in {c:List Int} (h:cntW c=true):∀ i,i≤c.length→0≤suW c i∧suW c i≤1000000 * (i:Int):=by
 have hc:∀ i,i < c.length→0≤c.getD i 0∧c.getD i 0≤1000000:=fun i hi=>by
  unfold cntW at h
  simp only [Bool.and_eq_true,Bool.not_eq_true',List.any_eq_false] at h
  have:=h.2.2 i (List.mem_range.2 hi)
  unfold cnO at this
  simpa using this
 have hl:c.length≤49:=by
  unfold cntW at h
  simp only [Bool.and_eq_true,decide_eq_true_eq] at h
  exact h.2.1
 intro i
 induction i with
 | zero=>intro _; exact ⟨Int.le_refl _,Int.le_refl _⟩
 | succ i ih=>
   intro hi
   have:=ih (by omega)
   have:=hc i (by omega)
   have e:suW c (i + 1)=suW c i + c.getD i 0:=by
    show IntKind.i64.wrap (suW c i + c.getD i 0)=_
    rw [IntKind.wrap_i64]; omega
   rw [e]
   omega
theorem cntW_len {c:List Int} (h:cntW c=true):1≤c.length∧c.length≤49:=by
 unfold cntW at h
 simp only [Bool.and_eq_true,decide_eq_true_eq] at h
 exact ⟨h.1,h.2.1⟩
theorem meN_in {c:List Int} (h:cntW c=true) {d:Int} (hd:1≤d∧d≤1000):meN c d=suW c c.length + d∧1≤meN c d:=by
 have hl:=cntW_len h
 have hs:=suW_in h c.length (Nat.le_refl _)
 unfold meN
 rw [IntKind.wrap_i64]
 omega
theorem meB_of {c v:List Int} (h:cntW c=true) (hl:v.length=c.length) {d:Int} (hd:1≤d∧d≤1000):meB c v d=true:=by
 have h1:=cntW_len h
 have h2:=meN_in h hd
 unfold meB
 rw [decide_eq_true (show 1≤v.length by omega),decide_eq_true (show c.length≤v.length by omega),show (meN c d==0)=false from beq_eq_false_iff_ne.2 (by omega)]
 rfl
def vaO (n:Int):Bool:=decide (-68719476736≤n)&&decide (n≤68719476736)
def mnB (c v:List Int) (d:Int):Bool:=cntW c&&(decide (v.length=c.length)&&(!((List.range v.length).any fun i=>!vaO (v.getD i 0))&&(decide (1≤d)&&decide (d≤1000))))
def mnO (c v:List Int) (d:Int):AOut:=.ret (.tup [.int .i64 (bif mnB c v d then meW mnI 1 c v d else 0),.int .i64 (bif mnB c v d then meW mxI 2 c v d else 0),.int .i64 (bif mnB c v d then 0 else 2)])
def mnX:AOut:=.ret (.tup [.int .i64 0,.int .i64 0,.int .i64 2])
def mnZ {α:Type} (c v:List Int) (d:Int) (k:AOut→Option α):Option α:=
 bif decide (1≤d) then bif !decide (d≤1000) then k mnX else bif meB c v d then bif meB c v d then k (.ret (.tup [.int .i64 (meW mnI 1 c v d),.int .i64 (meW mxI 2 c v d),.int .i64 0])) else none else none else k mnX
def vaF {α:Type} (c v:List Int) (d:Int) (k:AOut→Option α) (x:Int × Unit):Option (LRes (Int × Unit) α):=
 bif decide (x.1 < (v.length:Int)) then
  if 0≤x.1∧x.1 < (v.length:Int) then
   bif decide (-68719476736≤v.getD x.1.toNat 0) then bif !decide (v.getD x.1.toNat 0≤68719476736) then finL (bif decide (x.1 ≥ 0) then k mnX else mnZ c v d k) else some (.cont (IntKind.i64.wrap (x.1 + 1),()))
   else finL (bif decide (x.1 ≥ 0) then k mnX else mnZ c v d k)
  else none
 else some (.brk 0 (x.1,()))
theorem sMn_text (N n0:Nat) (α:Type) (c v:List Int) (d:Int) (k:AOut→Option α):evFn real tab ((twY fsK2 spC).env real tab N (n0 + 12)) N Tryz.f119 α [.ro (.int .i64) c,.ro (.int .i64) v,.int .i64 d] k =
 bif !cntW c then k mnX else bif (v.length:Int) != (c.length:Int) then k mnX else afterL (iterL N (vaF c v d k) (0,())) fun id _=>if id=0 then mnZ c v d k else none:=by
 kernel_rfl
theorem sMn_plain {α:Type} (c v:List Int) (d:Int) (k:AOut→Option α):(bif !cntW c then k mnX else bif (v.length:Int) != (c.length:Int) then k mnX else
 afterL (iterL 60 (vaF c v d k) (0,())) fun id _=>if id=0 then mnZ c v d k else none)=k (mnO c v d):=by
 unfold mnO mnB
 cases hc:cntW c
 ·rfl
 by_cases hl:v.length=c.length
 case neg=>rw [decide_eq_false hl,show ((v.length:Int) != (c.length:Int))=true from bne_iff_ne.2 (by omega)]; rfl
 rw [decide_eq_true hl,show ((v.length:Int) != (c.length:Int))=false by rw [hl]; simp,Bool.not_true,cond_false,cond_false,Bool.true_and,Bool.true_and]
 have h49:=cntW_len hc
 have hmx:v.length≤maxLen:=by have:maxLen=9223372036854775807:=rfl; omega
 refine (any_loop' (f:=vaF c v d k) (fun i:Nat=>((i:Int),())) v.length (fun i=>!vaO (v.getD i 0)) (k mnX) (fun i hi=>?_) (y:=((v.length:Int),())) (b:=0) ?_ (by omega)).trans ?_
 ·unfold vaF vaO
  simp only [lt_len hi,cond_true,in_len hi,if_pos,and_self,decide_true,Int.toNat_natCast,wrap_next hi hmx]
  cases decide (-68719476736≤v.getD i 0)<;>cases decide (v.getD i 0≤68719476736)<;>rfl
 ·unfold vaF
  simp only [not_lt_len,cond_false]
 ·rw [if_pos rfl]
  cases (List.range v.length).any fun i=>!vaO (v.getD i 0)
  case true=>rfl
  unfold mnZ
  by_cases h1:1≤d
  case neg=>rw [decide_eq_false h1]; rfl
  by_cases h2:d≤1000
  case neg=>rw [decide_eq_true h1,decide_eq_false h2]; rfl
  rw [decide_eq_true h1,decide_eq_true h2,meB_of hc hl ⟨h1,h2⟩]
  rfl
noncomputable def sMnS:Fsp:=fun _ args k=>match args with
 | [.ro (.int .i64) c,.ro (.int .i64) v,.int .i64 d]=>k (mnO c v d)
 | _=>none
theorem sMnS_ok:FspOk Tryz.prog 119 sMnS:=tower_Y fsK2_ok spC_ok ⟨Tryz.func119,fun _ _=>by kernel_rfl⟩ (by intro α args k; unfold sMnS; split<;>rfl) fun args out hSm hEq=>by
 unfold sMnS at hEq
 split at hEq
 ·rename_i c v d
  exact ⟨60,12,((sMn_text 60 0 AOut c v d some).trans (sMn_plain c v d some)).trans hEq⟩
 ·cases hEq
/-! counted of skip. -/
def emF {α:Type} (x:Int × Unit):Option (LRes (Int × Unit) α):=bif decide (x.1 < 0) then none else some (.brk 0 (x.1,()))
def emG {α:Type} (x:Int × List Int × Unit):Option (LRes (Int × List Int × Unit) α):=bif decide (x.1 < 0) then none else some (.brk 0 (x.1,x.2.1,()))
theorem kcn_text (N n0:Nat) (α:Type) (c:List Int) (m:Int) (k:AOut→Option α):evFn real tab ((twY fsK2 spC).env real tab N (n0 + 12)) N Tryz.f95 α [.ro (.int .i64) c,.int .i64 m] k =
 bif !cntW c then k (b1 false) else afterL (iterL N emF (0,())) fun id _=>if id=0 then if 0≤(c.length:Int)∧(c.length:Int)≤(c.length:Int)∧(c.length:Int) * ((8 :
 Nat):Int)≤((room:Nat):Int) then afterL (iterL N emG (0,List.replicate (c.length:Int).toNat 0,())) fun id _=>if id=0 then k (b1 ((c.length:Int)==m)) else none
 else none else none:=by kernel_rfl
noncomputable def kcnS:Fsp:=fun _ args k=>match args with
 | [.ro (.int .i64) c,.int .i64 m]=>k (b1 (cntW c&&((List.length (α:=Int) c:Int)==m)))
 | _=>none
theorem kcn_plain {α:Type} (c:List Int) (m:Int) (k:AOut→Option α):(bif !cntW c then k (b1 false) else
 afterL (iterL 5 emF (0,())) fun id _=>if id=0 then
  if 0≤(c.length:Int)∧(c.length:Int)≤(c.length:Int)∧(c.length:Int) * ((8:Nat):Int)≤((room:Nat):Int) then
   afterL (iterL 5 emG (0,List.replicate (c.length:Int).toNat 0,())) fun id _=>if id=0 then k (b1 ((c.length:Int)==m)) else none
  else none
 else none)=k (b1 (cntW c&&((c.length:Int)==m))):=by
 cases hc:cntW c
 ·rfl
 have h49:=cntW_len hc
 have hr:room ≥ 10000:=by decide
 rw [Bool.not_true,cond_false,Bool.true_and]
 show (if 0≤(c.length:Int)∧(c.length:Int)≤(c.length:Int)∧(c.length:Int) * ((8:Nat):Int)≤((room:Nat):Int) then _ else none)=_
 rw [if_pos ⟨by omega,by omega,by omega⟩]
 rfl
theorem kcnS_ok:FspOk Tryz.prog 95 kcnS:=tower_Y fsK2_ok spC_ok ⟨Tryz.func95,fun _ _=>by kernel_rfl⟩ (by intro α args k; unfold kcnS; split<;>rfl) fun args out hSm hEq=>by
 unfold kcnS at hEq
 split at hEq
 ·rename_i c m
  exact ⟨5,12,((kcn_text 5 0 AOut c m some).trans (kcn_plain c m some)).trans hEq⟩
 ·cases hEq
noncomputable def fsK3:FuncId→Option Fsp:=fun g=>
 if g=119 then some sMnS else
 if g=95 then some kcnS else
 fsK2 g
theorem fsK3_ok:FsOk fsK3:=
 fs_cons sMnS_ok <|
 fs_cons kcnS_ok <|
 fsK2_ok
abbrev GsI:=Int × Int × Int × Unit
abbrev HpI:=Int × Int × Unit
abbrev MpI:=List (GsI × HpI)
abbrev MpSh:Sh:=.mp GsSh HpSh
abbrev RvI:=Int × List (List Int) × List (List Int)
abbrev LsSh:Sh:=.sl (.int .i64)
def hpH (wc wb:Bool) (r:RvI) (M:MpI):List ABlk:=[.box wc [.int .i64 r.1,.ro LsSh r.2.1,.ro LsSh r.2.2,.fn 50 [.op 3 0,.op 1 0]],.box wb [.op 0 0],.row true 81 MpSh M,.box true [.own 2]]
def hpAt (h:List ABlk) (a b:Nat):Option (RvI × MpI × Nat × Nat × Bool × Bool):=
 match h.getD a .dead,h.getD b .dead with
 | .box true [.own m],.box wb [.op c 0]=>
   match h.getD m .dead,h.getD c .dead with
   | .row true t (.mp (.recd (.cons (.int .i64) (.cons (.int .i64) (.cons (.int .i64) .nil)))) (.recd (.cons (.int .i64) (.cons (.int .i64) .nil)))) M,.box wc [.int .i64 d,.ro (.sl (.int .i64)) A,.ro (.sl (.int .i64)) B,.fn f [.op a' 0,.op b' 0]]=>
     if (t=81∧f=50∧a'=a∧b'=b∧(wb || !wc)=true)∧(c≠b∧c≠m∧c≠a∧b≠m∧b≠a∧m≠a) then some ((d,A,B),M,m,c,wc,wb) else none
   | _,_=>none
 | _,_=>none
def hpM (h:List ABlk) (a m:Nat) (M:MpI):List ABlk:=((h.set m .dead).set a (.box true [.own h.length]))++[.row true 81 MpSh M]
def hpX (D:RvI→GsI→MpI→Bool) (V:RvI→GsI→HpI) (W:RvI→GsI→MpI→MpI):Cv→Cv:=fun _ _ v args h k=>
 match v,args with
 | .fn f [.op a 0,.op b 0],[.agg [.int .i64 e,.int .i64 l,.int .i64 t]]=>
   if f=50 then
    match hpAt h a b with
    | some (r,M,m,_,_,_)=>bif D r (e,l,t,()) M then k .normal (hpA (V r (e,l,t,())).1 (V r (e,l,t,())).2.1) (hpM h a m (W r (e,l,t,()) M)) else none
    | none=>none
   else none
 | _,_=>none
noncomputable def spH (D:RvI→GsI→MpI→Bool) (V:RvI→GsI→HpI) (W:RvI→GsI→MpI→MpI):FuncId→Option (Cv→Cv):=fun g=>
 if g=50 then some (hpX D V W) else spC g
def hpσ (c b m a:Nat):Nat→Nat
 | 0=>c
 | 1=>b
 | 2=>m
 | _=>a
theorem hp_box0 {σ:Nat→Nat} {I:Nat→Prop} {a b:Nat} {r:RvI} (h3:I 3) (h1:I 1) (e3:σ 3=a) (e1:σ 1=b) (j:Nat) (c' d':AVal) (hc:([.int .i64 r.1,.ro LsSh r.2.1,.ro LsSh r.2.2,.fn 50 [.op 3 0,.op 1 0]]:List AVal)[j]?=some c') (hd:([.int .i64 r.1,.ro LsSh r.2.1,.ro LsSh r.2.2,.fn 50 [.op a 0,.op b 0]]:List AVal)[j]?=some d'):Ren σ I c' d':=by
 subst e3; subst e1
 match j,hc,hd with
 | 0,hc,hd=>cases hc; cases hd; exact .flat _ rfl
 | 1,hc,hd=>cases hc; cases hd; exact .flat _ rfl
 | 2,hc,hd=>cases hc; cases hd; exact .flat _ rfl
 | 3,hc,hd=>
   cases hc; cases hd
   refine .fn _ _ _ rfl fun j c' d' hc hd=>?_
   match j,hc,hd with
   | 0,hc,hd=>cases hc; cases hd; exact .op 3 0 h3
   | 1,hc,hd=>cases hc; cases hd; exact .op 1 0 h1
   | j + 2,hc,_=>simp at hc
 | j + 4,hc,_=>simp at hc
theorem hp_box1 {σ:Nat→Nat} {I:Nat→Prop} {i c:Nat} (h0:I i) (e:σ i=c) (j:Nat) (c' d':AVal) (hc:([.op i 0]:List AVal)[j]?=some c') (hd:([.op c 0]:List AVal)[j]?=some d'):Ren σ I c' d':=by
 subst e
 match j,hc,hd with
 | 0,hc,hd=>cases hc; cases hd; exact .op i 0 h0
 | j + 1,hc,_=>simp at hc
theorem hp_box3 {σ:Nat→Nat} {I:Nat→Prop} {i c:Nat} (h0:I i) (e:σ i=c) (j:Nat) (c' d':AVal) (hc:([.own i]:List AVal)[j]?=some c') (hd:([.own c]:List AVal)[j]?=some d'):Ren σ I c' d':=by
 subst e
 match j,hc,hd with
 | 0,hc,hd=>cases hc; cases hd; exact .own i h0
 | j + 1,hc,_=>simp at hc
theorem hp_sub {h:List ABlk} {wc wb:Bool} {r:RvI} {M:MpI} {a b c m:Nat}
  (hne:c≠b∧c≠m∧c≠a∧b≠m∧b≠a∧m≠a)
  (h0:h[c]?=some (.box wc [.int .i64 r.1,.ro LsSh r.2.1,.ro LsSh r.2.2,.fn 50 [.op a 0,.op b 0]])) (h1:h[b]?=some (.box wb [.op c 0]))
  (h2:h[m]?=some (.row true 81 MpSh M)) (h3:h[a]?=some (.box true [.own m])):Sub (hpσ c b m a) (· < 4) (hpH wc wb r M) h where
 inj:=fun i j hi hj e=>by
  obtain ⟨n1,n2,n3,n4,n5,n6⟩:=hne
  match i,j,hi,hj with
  | 0,0,_,_=>rfl
  | 0,1,_,_=>exact absurd e n1
  | 0,2,_,_=>exact absurd e n2
  | 0,3,_,_=>exact absurd e n3
  | 1,0,_,_=>exact absurd e.symm n1
  | 1,1,_,_=>rfl
  | 1,2,_,_=>exact absurd e n4
  | 1,3,_,_=>exact absurd e n5
  | 2,0,_,_=>exact absurd e.symm n2
  | 2,1,_,_=>exact absurd e.symm n4
  | 2,2,_,_=>rfl
  | 2,3,_,_=>exact absurd e n6
  | 3,0,_,_=>exact absurd e.symm n3
  | 3,1,_,_=>exact absurd e.symm n5
  | 3,2,_,_=>exact absurd e.symm n6
  | 3,3,_,_=>rfl
  | i + 4,_,hi,_=>exact absurd hi (by simp)
  | _,j + 4,_,hj=>exact absurd hj (by simp)
 blk:=fun i hi=>by
  match i,hi with
  | 0,_=>exact .inl ⟨wc,_,_,rfl,h0,rfl,hp_box0 (show 3 < 4 by omega) (show 1 < 4 by omega) rfl rfl⟩
  | 1,_=>exact .inl ⟨wb,_,_,rfl,h1,rfl,hp_box1 (i:=0) (show 0 < 4 by omega) rfl⟩
  | 2,_=>exact .inr ⟨true,81,MpSh,M,rfl,h2⟩
  | 3,_=>exact .inl ⟨true,_,_,rfl,h3,rfl,hp_box3 (i:=2) (show 2 < 4 by omega) rfl⟩
  | i + 4,hi=>exact absurd hi (by simp)
structure HpEnd (wc wb:Bool) (r:RvI) (M:MpI) (hs:List ABlk) (q:Nat):Prop where
 h0:hs[0]?=some (.box wc [.int .i64 r.1,.ro LsSh r.2.1,.ro LsSh r.2.2,.fn 50 [.op 3 0,.op 1 0]])
 h1:hs[1]?=some (.box wb [.op 0 0])
 h3:hs[3]?=some (.box true [.own q])
 hq:hs[q]?=some (.row true 81 MpSh M)
 n0:q≠0∧q≠1∧q≠3
def hpσ' (h:List ABlk) (c b m a q i:Nat):Nat:=if i=q then h.length else hpσ c b m a i
def hpJ (q i:Nat):Prop:=i=0∨i=1∨i=3∨i=q
theorem hp_sub' {h hs:List ABlk} {wc wb:Bool} {r:RvI} {M:MpI} {a b c m q:Nat}
  (hne:c≠b∧c≠m∧c≠a∧b≠m∧b≠a∧m≠a) (E:HpEnd wc wb r M hs q)
  (h0:h[c]?=some (.box wc [.int .i64 r.1,.ro LsSh r.2.1,.ro LsSh r.2.2,.fn 50 [.op a 0,.op b 0]])) (h1:h[b]?=some (.box wb [.op c 0]))
  (h2:m < h.length) (h3:a < h.length):Sub (hpσ' h c b m a q) (hpJ q) hs (hpM h a m M):=by
 obtain ⟨n1,n2,n3,n4,n5,n6⟩:=hne
 obtain ⟨e0,e1,e3,eq,q0,q1,q3⟩:=E
 have lc:c < h.length:=(List.getElem?_eq_some_iff.1 h0).1
 have lb:b < h.length:=(List.getElem?_eq_some_iff.1 h1).1
 have s0:hpσ' h c b m a q 0=c:=if_neg (Ne.symm q0)
 have s1:hpσ' h c b m a q 1=b:=if_neg (Ne.symm q1)
 have s3:hpσ' h c b m a q 3=a:=if_neg (Ne.symm q3)
 have sq:hpσ' h c b m a q q=h.length:=if_pos rfl
 have f0:(hpM h a m M)[c]?=some (.box wc [.int .i64 r.1,.ro LsSh r.2.1,.ro LsSh r.2.2,.fn 50 [.op a 0,.op b 0]]):=by
  unfold hpM
  rw [List.getElem?_append_left (by simp; exact lc),List.getElem?_set_ne (Ne.symm n3),List.getElem?_set_ne (Ne.symm n2)]; exact h0
 have f1:(hpM h a m M)[b]?=some (.box wb [.op c 0]):=by
  unfold hpM
  rw [List.getElem?_append_left (by simp; exact lb),List.getElem?_set_ne (Ne.symm n5),List.getElem?_set_ne (Ne.symm n4)]; exact h1
 have f3:(hpM h a m M)[a]?=some (.box true [.own h.length]):=by
  unfold hpM
  rw [List.getElem?_append_left (by simp; exact h3),List.getElem?_set,if_pos rfl,if_pos (by simp; exact h3)]
 have fq:(hpM h a m M)[h.length]?=some (.row true 81 MpSh M):=by
  unfold hpM
  rw [List.getElem?_append_right (by simp)]
  simp
 constructor
 ·intro i j hi hj e
  rcases hi with rfl | rfl | rfl | rfl<;>rcases hj with rfl | rfl | rfl | rfl<;>simp only [s0,s1,s3,sq] at e<;>first | rfl | (exfalso; omega)
 ·intro i hi
  have j1:hpJ q 1:=.inr (.inl rfl)
  have j3:hpJ q 3:=.inr (.inr (.inl rfl))
  rcases hi with rfl | rfl | rfl | rfl
  ·rw [← s0] at f0
   exact .inl ⟨wc,_,_,e0,f0,rfl,hp_box0 j3 j1 s3 s1⟩
  ·rw [← s1] at f1
   exact .inl ⟨wb,_,_,e1,f1,rfl,hp_box1 (i:=0) (.inl rfl) s0⟩
  ·have g3:(hpM h a m M)[hpσ' h c b m a q 3]?=some (.box true [.own h.length]):=by rw [s3]; exact f3
   exact .inl ⟨true,_,_,e3,g3,rfl,hp_box3 (i:=q) (.inr (.inr (.inr rfl))) sq⟩
  ·exact .inr ⟨true,81,MpSh,M,eq,by rw [sq]; exact fq⟩
theorem getD_box {h:List ABlk} {i:Nat} {b:ABlk} (hb:b≠.dead) (e:h.getD i .dead=b):h[i]?=some b:=by
 rw [List.getD_eq_getElem?_getD] at e
 cases hx:h[i]? with
 | none=>rw [hx] at e; exact absurd e.symm hb
 | some q=>rw [hx] at e; exact congrArg some e
theorem hpAt_some {h:List ABlk} {a b:Nat} {r:RvI} {M:MpI} {m c:Nat} {w wb:Bool} (e:hpAt h a b=some (r,M,m,c,w,wb)) :
  (wb || !w)=true∧(c≠b∧c≠m∧c≠a∧b≠m∧b≠a∧m≠a)∧h[c]?=some (.box w [.int .i64 r.1,.ro LsSh r.2.1,.ro LsSh r.2.2,.fn 50 [.op a 0,.op b 0]])∧h[b]?=some (.box wb [.op c 0])∧h[m]?=some (.row true 81 MpSh M)∧h[a]?=some (.box true [.own m]):=by
 unfold hpAt at e
 split at e
 ·rename_i m' wb' c' e1 e2
  split at e
  ·rename_i t M' wc' d A B f a' b' e3 e4
   split at e
   ·rename_i hh
    obtain ⟨⟨rfl,rfl,rfl,rfl,hw⟩,hne⟩:=hh
    cases e
    exact ⟨hw,hne,getD_box (by simp) e4,getD_box (by simp) e2,getD_box (by simp) e3,getD_box (by simp) e1⟩
   ·cases e
  ·cases e
 ·cases e
theorem hpX_at {D:RvI→GsI→MpI→Bool} {V:RvI→GsI→HpI} {W:RvI→GsI→MpI→MpI} {sp:FuncId→Option (Cv→Cv)} (hsp:SpOk sp)
  (step:∀ (w wb:Bool) r s M,(wb || !w)=true→D r s M=true→∃ N n hs q,evBody real tab ((twY fsK3 sp).env real tab N n) N Tryz.f50 [.agg [.int .i64 s.1,.int .i64 s.2.1,.int .i64 s.2.2.1],.op 3 0,.op 1 0] (hpH w wb r M) tripE=some (.normal,hpA (V r s).1 (V r s).2.1,hs)∧HpEnd w wb r (W r s M) hs q)
  (cv:Cv) (caps:List AVal):CvAt Tryz.prog (hpX D V W cv) (.fn 50 caps) where
 nat:=fun α args h k=>by
  unfold hpX
  split
  ·split
   ·split
    ·rw [cond_bind]; rfl
    ·rfl
   ·rfl
  ·rfl
 ok:=fun args h x u h1 hk K g w fv cargs s hv hlen hargs=>by
  unfold hpX at hk
  split at hk
  case h_2=>cases hk
  rename_i f a b e l t hcaps
  split at hk
  case isFalse=>cases hk
  split at hk
  case h_2=>cases hk
  rename_i r M m c wf wg hat
  cases hD:D r (e,l,t,()) M
  ·rw [hD] at hk; cases hk
  rw [hD] at hk
  cases hk
  cases hcaps
  obtain ⟨hww,hne,q0,q1,q2,q3⟩:=hpAt_some hat
  obtain ⟨N,n,hs,q,hbody,E⟩:=step wf wg r (e,l,t,()) M hww hD
  have S0:=hp_sub hne q0 q1 q2 q3
  have hm:m < h.length:=(List.getElem?_eq_some_iff.1 q2).1
  have ha:a < h.length:=(List.getElem?_eq_some_iff.1 q3).1
  have S1:=hp_sub' (h:=h) (m:=m) hne E q0 q1 hm ha
  obtain ⟨n1,n2,n3,n4,n5,n6⟩:=hne
  have keep:∀ j,j < h.length→j≠m→j≠a→(hpM h a m (W r (e,l,t,()) M))[j]?=h[j]?:=fun j hj h1 h2=>by
   unfold hpM
   rw [List.getElem?_append_left (by simp; exact hj),List.getElem?_set_ne (Ne.symm h2),List.getElem?_set_ne (Ne.symm h1)]
  cases hv with
  | fn _ _ arr ha1 ha2=>
    refine .inl ⟨_,arr,rfl,fun w=>by kernel_rfl,?_⟩
    have st:=sub_st s (I:=(· < 4)) (hs:=hpH wf wg r M) (fun i hi=>hi) S0
    refine (body_calls mixedT tabOk (tower_ok mixedT tabOk (twY_ok fsK3_ok hsp) N n) N Tryz.func50 hbody st (by rw [Array.size_append,← hlen,← ha1]; rfl) fun j c' z hc hz=>?_).mono fun e' w' hp=>sub_post (q:=q) s S0 S1 ⟨.inr (.inr (.inr rfl)),if_pos rfl⟩ (fun i hi=>?_) (by unfold hpM; simp) (fun j hj hn=>keep j hj (fun e=>hn 2 (show 2 < 4 by omega) e.symm) fun e=>hn 3 (show 3 < 4 by omega) e.symm) (fun i hi hk=>?_) (fun i hi cs hb=>?_) (fun i hi t e xs hb=>?_) (.agg _ _ rfl fun j c' d' hc hd=>?_) hp
    ·have down:∀ {c' d':AVal} {v:Value},Ren (hpσ c b m a) (· < 4) c' d'→Rep h g w d' v→Rep (hpH wf wg r M) ⟨fun i=>g.ρ (hpσ c b m a i),g.M⟩ w c' v:=fun rr hh=>ren_down S0 (g:=g) (gs:=⟨fun i=>g.ρ (hpσ c b m a i),g.M⟩) (fun _ _=>rfl) (fun _ h=>h) rr hh
     match j,hc with
     | 0,hc=>
       simp only [List.getElem?_cons_zero,Option.some.injEq] at hc
       subst hc
       have hz':cargs[0]?=some z:=by
        rw [Array.getElem?_append_left (by rw [← hlen]; simp)] at hz
        exact hz
       refine down (.agg _ _ rfl fun j c' d' hc hd=>?_) (hargs 0 _ z rfl hz')
       rw [hc] at hd; cases hd
       match j,hc with
       | 0,hc=>cases hc; exact .flat _ rfl
       | 1,hc=>cases hc; exact .flat _ rfl
       | 2,hc=>cases hc; exact .flat _ rfl
       | j + 3,hc=>simp at hc
     | 1,hc=>
       simp only [List.getElem?_cons_succ,List.getElem?_cons_zero,Option.some.injEq] at hc
       subst hc
       have hz':arr[0]?=some z:=by
        rw [Array.getElem?_append_right (by rw [← hlen]; simp),← hlen] at hz
        exact hz
       exact down (.op 3 0 (show 3 < 4 by omega)) (ha2 0 _ z rfl hz')
     | 2,hc=>
       simp only [List.getElem?_cons_succ,List.getElem?_cons_zero,Option.some.injEq] at hc
       subst hc
       have hz':arr[1]?=some z:=by
        rw [Array.getElem?_append_right (by rw [← hlen]; simp),← hlen] at hz
        exact hz
       exact down (.op 1 0 (show 1 < 4 by omega)) (ha2 1 _ z rfl hz')
     | j + 3,hc=>simp at hc
    ·by_cases e:i=q
     ·exact .inl e
     ·refine .inr ⟨?_,if_neg e⟩
      rcases hi with rfl | rfl | rfl | rfl
      ·show 0 < 4; omega
      ·show 1 < 4; omega
      ·show 3 < 4; omega
      ·exact absurd rfl e
    ·obtain ⟨_,_,_,_,z0,z1,z3⟩:=E
     match i,hi with
     | 0,_=>exact absurd ⟨.inl rfl,Ne.symm z0⟩ hk
     | 1,_=>exact absurd ⟨.inr (.inl rfl),Ne.symm z1⟩ hk
     | 2,_=>
       show (hpM h a m _)[m]?=some ABlk.dead
       unfold hpM
       rw [List.getElem?_append_left (by simp; exact hm),List.getElem?_set_ne (Ne.symm n6),List.getElem?_set,if_pos rfl,if_pos hm]
     | 3,_=>exact absurd ⟨.inr (.inr (.inl rfl)),Ne.symm z3⟩ hk
     | i + 4,hi=>exact absurd hi (by simp)
    ·match i,hi with
     | 0,_=>exact (keep c (List.getElem?_eq_some_iff.1 q0).1 n2 n3).trans hb
     | 1,_=>exact (keep b (List.getElem?_eq_some_iff.1 q1).1 n4 n5).trans hb
     | 2,_=>
       have:h[m]?=some (ABlk.box false cs):=hb
       rw [q2] at this; cases this
     | 3,_=>
       have:h[a]?=some (ABlk.box false cs):=hb
       rw [q3] at this; cases this
     | i + 4,hi=>exact absurd hi (by simp)
    ·match i,hi with
     | 0,_=>
       have:h[c]?=some (ABlk.row false t e xs):=hb
       rw [q0] at this; cases this
     | 1,_=>
       have:h[b]?=some (ABlk.row false t e xs):=hb
       rw [q1] at this; cases this
     | 2,_=>
       have:h[m]?=some (ABlk.row false t e xs):=hb
       rw [q2] at this; cases this
     | 3,_=>
       have:h[a]?=some (ABlk.row false t e xs):=hb
       rw [q3] at this; cases this
     | i + 4,hi=>exact absurd hi (by simp)
    ·rw [hc] at hd; cases hd
     match j,hc with
     | 0,hc=>cases hc; exact .flat _ rfl
     | 1,hc=>cases hc; exact .flat _ rfl
     | j + 2,hc=>simp at hc
abbrev PnS:=Int × MpI × List HpI × Unit
def nxG (e l t p:Int):GsI:=(nxE e,nxL l t p,nxT t p,())
def pnH {α:Type} (D:RvI→GsI→MpI→Bool) (V:RvI→GsI→HpI) (W:RvI→GsI→MpI→MpI) (r:RvI) (e l t:Int) (x:PnS):Option (LRes PnS α):=
 bif hmB t then bif D r (nxG e l t x.1) x.2.1 then
  if (x.2.2.1.length + [(((V r (nxG e l t x.1)).1,(V r (nxG e l t x.1)).2.1,()):HpI)].length) * 16≤room then some (.cont (IntKind.i64.wrap (x.1 + 1),W r (nxG e l t x.1) x.2.1,x.2.2.1++[((V r (nxG e l t x.1)).1,(V r (nxG e l t x.1)).2.1,())],())) else none
 else none else none
def pnZ {α:Type} (b:Bool) (x:PnS):Option (LRes PnS α):=
 if (x.2.2.1.length + [((suV b,suV b,()):HpI)].length) * 16≤room then some (.cont (IntKind.i64.wrap (x.1 + 1),x.2.1,x.2.2.1++[(suV b,suV b,())],())) else none
def pnC {α:Type} (D:RvI→GsI→MpI→Bool) (V:RvI→GsI→HpI) (W:RvI→GsI→MpI→MpI) (r:RvI) (e l t:Int) (x:PnS):Option (LRes PnS α):=
 bif decide (x.1 < 0) then bif decide (e > 0) then pnH D V W r e l t x else pnZ (t==1) x else bif decide (e > 0) then pnH D V W r e l t x else pnZ false x
def pnF {α:Type} (D:RvI→GsI→MpI→Bool) (V:RvI→GsI→HpI) (W:RvI→GsI→MpI→MpI) (r:RvI) (e l t:Int) (x:PnS):Option (LRes PnS α):=
 bif decide (x.1≤8) then bif decide (x.1 > 0) then bif t==0 then bif decide (e > 0) then pnH D V W r e l t x else pnZ true x else pnC D V W r e l t x else pnC D V W r e l t x
 else some (.brk 0 (x.1,x.2.1,x.2.2.1,()))
abbrev LhS:=List Int × List Int × Int × Unit
def lhF {α:Type} (H:List HpI) (x:LhS):Option (LRes LhS α):=
 bif decide (x.2.2.1 < (H.length:Int)) then
  if 0≤x.2.2.1∧x.2.2.1 < (H.length:Int) then
   if (x.1.length + [(H.getD x.2.2.1.toNat (0,0,())).1].length) * 8≤room then if (x.2.1.length + [(H.getD x.2.2.1.toNat (0,0,())).2.1].length) * 8≤room then
    some (.cont (x.1++[(H.getD x.2.2.1.toNat (0,0,())).1],x.2.1++[(H.getD x.2.2.1.toNat (0,0,())).2.1],IntKind.i64.wrap (x.2.2.1 + 1),()))
   else none else none
  else none
 else some (.brk 0 (x.1,x.2.1,x.2.2.1,()))
abbrev SgS:=List HpI × List HpI × Int × MpI × Unit
def meH (c lo hi:List Int) (d:Int):HpI:=(bif mnB c lo d then meW mnI 1 c lo d else 0,bif mnB c hi d then meW mxI 2 c hi d else 0,())
def sgM {α:Type} (N:Nat) (d:Int) (c:List Int) (x:SgS):Option (LRes SgS α):=
 afterL (iterL N (lhF x.1) ([],[],0,())) fun id y=>if id=0 then
  if (x.2.1.length + [meH c y.1 y.2.1 d].length) * 16≤room then some (.cont (x.1,x.2.1++[meH c y.1 y.2.1 d],IntKind.i64.wrap (x.2.2.1 + 1),x.2.2.2.1,())) else none
 else none
def sgF {α:Type} (N:Nat) (d e:Int) (L:List (List Int)) (x:SgS):Option (LRes SgS α):=
 bif decide (x.2.2.1 < (L.length:Int)) then
  if 0≤x.2.2.1∧x.2.2.1 < (L.length:Int) then
   bif e==0 then
    if 0 < (L.getD x.2.2.1.toNat []).length then if ((List.nil (α:=Int)).length + (L.getD x.2.2.1.toNat []).length) * 8≤room then
     if 0≤(8:Int)∧(8:Int) < ((([]:List Int)++L.getD x.2.2.1.toNat []).length:Int) then sgM N d ((([]:List Int)++L.getD x.2.2.1.toNat []).set (Int.toNat 8) 0) x else none
    else none else none
   else sgM N d (L.getD x.2.2.1.toNat []) x
  else none
 else some (.brk 0 (x.1,x.2.1,x.2.2.1,x.2.2.2.1,()))
def hpB (wc wb:Bool) (r:RvI) (q:Nat):List ABlk:=[.box wc [.int .i64 r.1,.ro LsSh r.2.1,.ro LsSh r.2.2,.fn 50 [.op 3 0,.op 1 0]],.box wb [.op 0 0],.dead,.box true [.own q]]
def hpE (wc wb:Bool) (r:RvI) (e l t:Int) (O:List HpI) (M:MpI):List ABlk:=
 hpB wc wb r 20++[.box true [.int .i64 e,.int .i64 l,.int .i64 t],.box true [.int .i64 (chX (opT t) O).1,.int .i64 (chX (opT t) O).2],.box true [.int .i64 (chX (opT t) O).1,.int .i64 (chX (opT t) O).2]]++List.replicate 12 .dead++[.row true 33 HpSh O,.row true 81 MpSh (mpPut GsSh HpSh (e,l,t,()) ((chX (opT t) O).1,(chX (opT t) O).2,()) M)]
def sgT {α:Type} (N:Nat) (wc wb:Bool) (r:RvI) (e l t:Int) (L:List (List Int)) (H:List HpI) (M:MpI) (k:AExit→AVal→List ABlk→Option α):Option α:=
 afterL (iterL N (sgF N r.1 e L) (H,[],0,M,())) fun id z=>if id=0 then
  bif choB z.2.1 t then k .normal (hpA (chX (opT t) z.2.1).1 (chX (opT t) z.2.1).2) (hpE wc wb r e l t z.2.1 z.2.2.2.1) else none
 else none
def fdH (s:GsI) (M:MpI):HpI:=Option.getD (α:=HpI) (mpFind GsSh HpSh s M) (0,0,())
def hpU {α:Type} (N:Nat) (D:RvI→GsI→MpI→Bool) (V:RvI→GsI→HpI) (W:RvI→GsI→MpI→MpI) (wc wb:Bool) (r:RvI) (M:MpI) (e l t:Int) (k:AExit→AVal→List ABlk→Option α):Option α:=
 bif !(mpFind GsSh HpSh (e,l,t,()) M).isSome then
  afterL (iterL N (pnF D V W r e l t) (-8,M,[],())) fun id y=>if id=0 then
   if 0≤t∧t < ((2:Nat):Int) then bif t==((0:Nat):Int) then sgT N wc wb r e l t r.2.1 y.2.2.1 y.2.1 k else bif t==((0 + 1:Nat):Int) then sgT N wc wb r e l t r.2.2 y.2.2.1 y.2.1 k else none else none
  else none
 else k .normal (hpA (fdH (e,l,t,()) M).1 (fdH (e,l,t,()) M).2.1) (hpH wc wb r M++[.box true [.int .i64 e,.int .i64 l,.int .i64 t],.box true [.int .i64 (fdH (e,l,t,()) M).1,.int .i64 (fdH (e,l,t,()) M).2.1],.box true [.int .i64 (fdH (e,l,t,()) M).1,.int .i64 (fdH (e,l,t,()) M).2.1]])
def hpT {α:Type} (N:Nat) (D:RvI→GsI→MpI→Bool) (V:RvI→GsI→HpI) (W:RvI→GsI→MpI→MpI) (wc wb:Bool) (r:RvI) (M:MpI) (e l t:Int) (k:AExit→AVal→List ABlk→Option α):Option α:=
 bif e==0 then bif l != 0 then k .normal (hpA (suV (decide (l > 0))) (suV (decide (l > 0)))) (hpH wc wb r M++[.box true [.int .i64 e,.int .i64 l,.int .i64 t],.box true [.int .i64 (suV (decide (l > 0))),.int .i64 (suV (decide (l > 0)))]])
  else hpU N D V W wc wb r M e l t k
 else hpU N D V W wc wb r M e l t k
set_option maxRecDepth 100000 in
theorem hp_bodyA (N n0:Nat) (D:RvI→GsI→MpI→Bool) (V:RvI→GsI→HpI) (W:RvI→GsI→MpI→MpI) (d:Int) (A B:List (List Int)) (M:MpI) (e l t:Int) (α:Type) (k:AExit→AVal→List ABlk→Option α):evBody real tab ((twY fsK3 (spH D V W)).env real tab N (n0 + 30)) N Tryz.f50 (α:=α) [.agg [.int .i64 e,.int .i64 l,.int .i64 t],.op 3 0,.op 1 0] (hpH true true (d,A,B) M) k=hpT N D V W true true (d,A,B) M e l t k:=by kernel_rfl
set_option maxRecDepth 100000 in
theorem hp_bodyB (N n0:Nat) (D:RvI→GsI→MpI→Bool) (V:RvI→GsI→HpI) (W:RvI→GsI→MpI→MpI) (d:Int) (A B:List (List Int)) (M:MpI) (e l t:Int) (α:Type) (k:AExit→AVal→List ABlk→Option α):evBody real tab ((twY fsK3 (spH D V W)).env real tab N (n0 + 30)) N Tryz.f50 (α:=α) [.agg [.int .i64 e,.int .i64 l,.int .i64 t],.op 3 0,.op 1 0] (hpH false false (d,A,B) M) k=hpT N D V W false false (d,A,B) M e l t k:=by kernel_rfl
set_option maxRecDepth 100000 in
theorem hp_bodyC (N n0:Nat) (D:RvI→GsI→MpI→Bool) (V:RvI→GsI→HpI) (W:RvI→GsI→MpI→MpI) (d:Int) (A B:List (List Int)) (M:MpI) (e l t:Int) (α:Type) (k:AExit→AVal→List ABlk→Option α):evBody real tab ((twY fsK3 (spH D V W)).env real tab N (n0 + 30)) N Tryz.f50 (α:=α) [.agg [.int .i64 e,.int .i64 l,.int .i64 t],.op 3 0,.op 1 0] (hpH false true (d,A,B) M) k=hpT N D V W false true (d,A,B) M e l t k:=by kernel_rfl
theorem hp_body (w wb:Bool) (hw:(wb || !w)=true) (N n0:Nat) (D:RvI→GsI→MpI→Bool) (V:RvI→GsI→HpI) (W:RvI→GsI→MpI→MpI) (r:RvI) (M:MpI) (e l t:Int) (α:Type) (k:AExit→AVal→List ABlk→Option α):evBody real tab ((twY fsK3 (spH D V W)).env real tab N (n0 + 30)) N Tryz.f50 (α:=α) [.agg [.int .i64 e,.int .i64 l,.int .i64 t],.op 3 0,.op 1 0] (hpH w wb r M) k=hpT N D V W w wb r M e l t k:=by
 cases w<;>cases wb
 ·exact hp_bodyB N n0 D V W r.1 r.2.1 r.2.2 M e l t α k
 ·exact hp_bodyC N n0 D V W r.1 r.2.1 r.2.2 M e l t α k
 ·cases hw
 ·exact hp_bodyA N n0 D V W r.1 r.2.1 r.2.2 M e l t α k
end Go.Proofs.YtbkpklfjoifdbaaGreat
