/- Parts of the proof, in build order. -/
import Derived.Test.YtpgfncncgjihpaaGreatM6
import Derived.Shelf.Spec.BitsCarry
namespace Go.Proofs.YtpgfncncgjihpaaGreat
open Go.RowKit
theorem fsp_walkS {P:Program} {f:FuncId} {S:Fsp} (hn:∀(α:Type) args (k:AOut→Option α),S α args k=(S AOut args some).bind k) (hen:∀args w,(callFunc f args).run P w=.ok (.enter f args) w)
  (h:∀args out,S AOut args some=some out→args.all AVal.p1=true∧out.plain=true∧∀w,Calls P f (args.map AVal.v1).toArray w fun e w'=>e=out.ending∧Below w.heap.size w w'):FspOk P f S where
 enter:=hen
 nat:=hn
 calls:=fun args out hout M w cargs hM hl hr=>by
  obtain⟨h1,h2,h3⟩:=h args out hout
  rw[reps_p1 hl hr h1]
  refine (h3 w).mono ?_
  rintro e w' ⟨rfl,hb⟩
  refine⟨M,fun _ h=>h,fun _ h=>.inl h,fun b h=>Nat.lt_of_lt_of_le (hM b h) hb.size,hb,?_⟩
  cases out with
  |ret v=>exact⟨_,rfl,rep_v2 h2⟩
  |pan v=>exact⟨_,rfl,rep_v2 h2⟩
def wB (x:Int):Bool:=decide (0≤x)&&decide (x<18446744073709551616)
theorem wB_iff {x:Int}:wB x=true↔Word x:=by simp[wB,Word]
def mul64S:Fsp:=fun _ args k=>match args with
 | [.int .u64 x,.int .u64 y]=>bif wB x&&wB y then k (.ret (.tup [uN (hiW (x*y)),uN (loW (x*y))])) else none
 |_=>none
theorem mul64S_ok:FspOk Tryz.prog 125 mul64S:=fsp_walkS (by intro α args k; unfold mul64S; split<;>simp only[cond_bind,Option.bind_some,Option.bind_none]) (fun args w=>by kernel_rfl) fun args out h=>by
 unfold mul64S at h
 split at h
 ·rename_i x y
  cases hw:wB x&&wB y
  ·rw[hw] at h; cases h
  ·rw[hw] at h; cases h
   simp only[Bool.and_eq_true,wB_iff] at hw
   refine⟨rfl,rfl,fun w=>(mul64 x y hw.1 hw.2 w).mono ?_⟩
   rintro e w' ⟨rfl,rfl⟩
   exact⟨rfl,Below.refl _ _⟩
 ·cases h
def prodS:Fsp:=fun _ args k=>match args with
 | [.int .u64 x,.int .u64 y]=>bif wB x&&wB y then k (.ret (.agg [uN (hiW (x*y)),uN (loW (x*y))])) else none
 |_=>none
theorem prodS_ok:FspOk Tryz.prog 71 prodS:=fsp_walkS (by intro α args k; unfold prodS; split<;>simp only[cond_bind,Option.bind_some,Option.bind_none]) (fun args w=>by kernel_rfl) fun args out h=>by
 unfold prodS at h
 split at h
 ·rename_i x y
  cases hw:wB x&&wB y
  ·rw[hw] at h; cases h
  ·rw[hw] at h; cases h
   simp only[Bool.and_eq_true,wB_iff] at hw
   refine⟨rfl,rfl,fun w=>(product_c x y w hw.1 hw.2).mono ?_⟩
   rintro e w' ⟨rfl,hb⟩
   exact⟨rfl,hb⟩
 ·cases h
def cmpWS:Fsp:=fun _ args k=>match args with
 | [.agg [.int .u64 a,.int .u64 b],.agg [.int .u64 c,.int .u64 d]]=>k (.ret (.int .i64 (orI (cmpI a c) (cmpI b d))))
 |_=>none
theorem cmpWS_ok:FspOk Tryz.prog 123 cmpWS:=fsp_walkS (by intro α args k; unfold cmpWS; split<;>rfl) (fun args w=>by kernel_rfl) fun args out h=>by
 unfold cmpWS at h
 split at h
 ·rename_i a b c d
  cases h
  refine⟨rfl,rfl,fun w=>(wcompare_c a b c d w).mono ?_⟩
  rintro e w' ⟨rfl,hb⟩
  exact⟨rfl,hb⟩
 ·cases h
def overS:Fsp:=fun _ args k=>match args with
 | [.agg [.int .u64 h,.int .u64 l],.int .u64 d]=>bif wB h&&wB l&&wB d then (bif decide (d≤h) then k (.ret (.tup [uN 0,uN 0,bN false])) else k (.ret (.tup [uN (quoI h l d),uN (remI h l d),bN true]))) else none
 |_=>none
theorem overS_ok:FspOk Tryz.prog 199 overS:=fsp_walkS (by intro α args k; unfold overS; split<;>simp only[cond_bind,Option.bind_some,Option.bind_none]) (fun args w=>by kernel_rfl) fun args out h=>by
 unfold overS at h
 split at h
 ·rename_i x y d
  cases hw:wB x&&wB y&&wB d
  ·rw[hw] at h; cases h
  ·rw[hw] at h
   simp only[Bool.and_eq_true,wB_iff] at hw
   by_cases hd:d≤x
   ·rw[decide_eq_true hd] at h; cases h
    refine⟨rfl,rfl,fun w=>(over_no x y d w hd).mono ?_⟩
    rintro e w' ⟨rfl,hb⟩
    exact⟨rfl,hb⟩
   ·rw[decide_eq_false hd] at h; cases h
    refine⟨rfl,rfl,fun w=>(over_yes x y d w hw.1.1.1 hw.1.2 hw.2.2 (by omega)).mono ?_⟩
    rintro e w' ⟨rfl,hb⟩
    exact⟨rfl,hb⟩
 ·cases h
def add64E:Fsp:=fun _ args k=>match args with
 | [.int .u64 x,.int .u64 y,.int .u64 c]=>bif wB x&&wB y&&(decide (0≤c)&&decide (c≤1)) then k (.ret (.tup [uN ((x+y+c) % 18446744073709551616),uN ((x+y+c) / 18446744073709551616)])) else none
 |_=>none
theorem add64E_at (cv:Cv) (h:CvOk Tryz.prog cv) (caps:List AVal):CvAt Tryz.prog (extS add64E cv) (.fn 239 caps):=ext_at (by intro α args k; unfold add64E; split<;>simp only[cond_bind,Option.bind_some,Option.bind_none]) (fun args r h=>by
 unfold add64E at h
 split at h
 ·rename_i x y c
  cases hw:wB x&&wB y&&(decide (0≤c)&&decide (c≤1))
  ·rw[hw] at h; cases h
  ·rw[hw] at h; cases h
   simp only[Bool.and_eq_true,wB_iff,decide_eq_true_eq] at hw
   exact⟨_,rfl,⟨_,rfl,fun f cs=>by simp⟩,rfl,rfl,fun w=>add64 x y c hw.1.1.1 hw.1.2.1 hw.2.1 hw.2.2 w⟩
 ·cases h) cv h caps
theorem sub64 (x y b:Nat) (hb:b≤1) (w:World):(callFunc 296 #[.int .u64 x,.int .u64 y,.int .u64 b]).run Tryz.prog w =
  .ok (.value (.tuple #[.int .u64 (((x+18446744073709551616-y-b) % 18446744073709551616:Nat):Int),.int .u64 ((if x<y+b then 1 else 0:Nat):Int)])) w:=by
 rw[run_callFunc_extern Tryz.func296 (by kernel_rfl) (by kernel_rfl) (by kernel_rfl) (e:=sub64Entry) (by kernel_rfl),run_sub64 x y b hb]
 rfl
def sub64E:Fsp:=fun _ args k=>match args with
 | [.int .u64 x,.int .u64 y,.int .u64 c]=>bif wB x&&wB y&&(decide (0≤c)&&decide (c≤1)) then k (.ret (.tup [uN ((x-y-c) % 18446744073709551616),uN (if x<y+c then 1 else 0)])) else none
 |_=>none
theorem sub64E_at (cv:Cv) (h:CvOk Tryz.prog cv) (caps:List AVal):CvAt Tryz.prog (extS sub64E cv) (.fn 296 caps):=ext_at (by intro α args k; unfold sub64E; split<;>simp only[cond_bind,Option.bind_some,Option.bind_none]) (fun args r h=>by
 unfold sub64E at h
 split at h
 ·rename_i x y c
  cases hw:wB x&&wB y&&(decide (0≤c)&&decide (c≤1))
  ·rw[hw] at h; cases h
  ·rw[hw] at h; cases h
   simp only[Bool.and_eq_true,wB_iff,decide_eq_true_eq] at hw
   refine⟨_,rfl,⟨_,rfl,fun f cs=>by simp⟩,rfl,rfl,fun w=>?_⟩
   obtain⟨⟨⟨h1,h2⟩,h3,h4⟩,h5,h6⟩:=hw
   obtain⟨x,rfl⟩:=Int.eq_ofNat_of_zero_le h1
   obtain⟨y,rfl⟩:=Int.eq_ofNat_of_zero_le h3
   obtain⟨c,rfl⟩:=Int.eq_ofNat_of_zero_le h5
   refine (sub64 x y c (by omega) w).trans ?_
   have e1:(((x+18446744073709551616-y-c) % 18446744073709551616:Nat):Int)=((x:Int)-y-c) % 18446744073709551616:=by omega
   have e2:((if x<y+c then 1 else 0:Nat):Int)=if (x:Int)<y+c then 1 else 0:=by split<;>split<;>omega
   rw[e1,e2]
   rfl
 ·cases h) cv h caps
noncomputable def spA:FuncId→Option (Cv→Cv):=fun g=>if g=239 then some (extS add64E) else
 if g=296 then some (extS sub64E) else
 none
theorem spA_ok:SpOk spA:=sp_cons add64E_at <|
 sp_cons sub64E_at <|
 sp_nil
def fsA:FuncId→Option Fsp:=fun g=>if g=125 then some mul64S else
 if g=71 then some prodS else
 if g=123 then some cmpWS else
 if g=199 then some overS else
 none
theorem fsA_ok:FsOk fsA:=fs_cons mul64S_ok <|
 fs_cons prodS_ok <|
 fs_cons cmpWS_ok <|
 fs_cons overS_ok <|
 fs_nil
theorem i64w (n:Int) (h:-9223372036854775808≤n∧n≤9223372036854775807):IntKind.i64.wrap n=n:=by rw[IntKind.wrap_i64]; omega
theorem u64w (n:Int) (h:0≤n∧n≤18446744073709551615):IntKind.u64.wrap n=n:=by rw[IntKind.wrap_u64]; omega
def vw (h l:Int):Int:=h*18446744073709551616+l
theorem vw_hl (n:Int):vw (hiW n) (loW n)=n:=hiW_loW n
def i6 (x:Int):Bool:=decide (-9223372036854775808≤x)&&decide (x≤9223372036854775807)
theorem i6_iff {x:Int}:i6 x=true↔-9223372036854775808≤x∧x≤9223372036854775807:=by simp[i6]
theorem i6_ok {x:Int} (h:okB x=true):i6 x=true:=by rw[ok_iff] at h; rw[i6_iff]; omega
theorem wB_ab {x:Int} (h:i6 x=true):wB (ab x)=true:=by rw[i6_iff] at h; rw[wB_iff]; unfold Word ab; split<;>omega
theorem hi_wB {n:Int} (h:0≤n∧n<340282366920938463463374607431768211456):wB (hiW n)=true:=wB_iff.2 (hiW_word h.1 h.2)
theorem lo_wB (n:Int):wB (loW n)=true:=wB_iff.2 (loW_word n)
def sizeS:Fsp:=fun _ args k=>match args with
 | [.int .i64 x]=>bif i6 x then k (.ret (.int .u64 (ab x))) else none
 |_=>none
theorem size_plain {α:Type} (x:Int) (hx:i6 x=true) (k:AOut→Option α):(bif decide (x<0) then k (AOut.ret (AVal.int IntKind.u64 (IntKind.u64.wrap (0-IntKind.u64.wrap x)))) else k (AOut.ret (AVal.int IntKind.u64 (IntKind.u64.wrap x))))=k (.ret (.int .u64 (ab x))):=by
 rw[i6_iff] at hx
 unfold ab
 by_cases h:x<0
 ·rw[decide_eq_true h,if_pos h,cond_true,IntKind.wrap_u64,IntKind.wrap_u64]
  congr 3; omega
 ·rw[decide_eq_false h,if_neg h,cond_false,u64w _ (by omega)]
theorem size_text (N n:Nat) (α:Type) (x:Int) (k:AOut→Option α):evFn real tab ((twT fsA spA).env real tab N n) N Tryz.f171 α [iN x] k =
 bif decide (x<0) then k (AOut.ret (AVal.int IntKind.u64 (IntKind.u64.wrap (0-IntKind.u64.wrap x)))) else k (AOut.ret (AVal.int IntKind.u64 (IntKind.u64.wrap x))):=by
 kernel_rfl
theorem sizeS_ok:FspOk Tryz.prog 171 sizeS:=tower_S fsA_ok spA_ok ⟨Tryz.func171,fun _ _=>by kernel_rfl⟩ (by intro α args k; unfold sizeS; split<;>simp only[cond_bind,Option.bind_some,Option.bind_none]) fun args out hs h=>by
 unfold sizeS at h
 split at h
 ·rename_i x
  cases hx:i6 x
  ·rw[hx] at h; cases h
  ·rw[hx] at h; exact⟨1,1,(size_text 1 1 AOut x some).trans ((size_plain x hx some).trans h)⟩
 ·cases h
theorem isize_text (N n:Nat) (α:Type) (x:Int) (k:AOut→Option α):evFn real tab ((twT fsA spA).env real tab N n) N Tryz.f172 α [iN x] k =
 bif decide (x<0) then k (AOut.ret (AVal.int IntKind.u64 (IntKind.u64.wrap (0-IntKind.u64.wrap x)))) else k (AOut.ret (AVal.int IntKind.u64 (IntKind.u64.wrap x))):=by
 kernel_rfl
theorem isizeS_ok:FspOk Tryz.prog 172 sizeS:=tower_S fsA_ok spA_ok ⟨Tryz.func172,fun _ _=>by kernel_rfl⟩ (by intro α args k; unfold sizeS; split<;>simp only[cond_bind,Option.bind_some,Option.bind_none]) fun args out hs h=>by
 unfold sizeS at h
 split at h
 ·rename_i x
  cases hx:i6 x
  ·rw[hx] at h; cases h
  ·rw[hx] at h; exact⟨1,1,(isize_text 1 1 AOut x some).trans ((size_plain x hx some).trans h)⟩
 ·cases h
def signedS:Fsp:=fun _ args k=>match args with
 | [.int .u64 n,.bool neg]=>bif wB n then (bif fxB n then k (i1 (sg neg n)) else k (mis fxm 4)) else none
 |_=>none
theorem signed_fin {n:Int} (neg:Bool) (h0:0≤n) (h1:n≤70368744177664) {α:Type} (k:AOut→Option α):(bif neg then k (AOut.ret (AVal.int IntKind.i64 (IntKind.i64.wrap (0-IntKind.i64.wrap n)))) else k (AOut.ret (AVal.int IntKind.i64 (IntKind.i64.wrap n))))=k (i1 (sg neg n)):=by
 cases neg
 ·rw[cond_false,i64w _ (by omega)]; rfl
 ·rw[cond_true,i64w n (by omega),i64w _ (by omega),Int.zero_sub]; rfl
theorem signed_text (N n:Nat) (α:Type) (x:Int) (b:Bool) (k:AOut→Option α):evFn real tab ((twT fsA spA).env real tab N (n+1)) N Tryz.f124 α [uN x,.bool b] k =
 bif !decide (x≤70368744177664) then k (mis fxm 4) else bif b then k (AOut.ret (AVal.int IntKind.i64 (IntKind.i64.wrap (0-IntKind.i64.wrap x)))) else k (AOut.ret (AVal.int
 IntKind.i64 (IntKind.i64.wrap x))):=by kernel_rfl
theorem signedS_ok:FspOk Tryz.prog 124 signedS:=tower_S fsA_ok spA_ok ⟨Tryz.func124,fun _ _=>by kernel_rfl⟩ (by intro α args k; unfold signedS; split<;>simp only[cond_bind,Option.bind_some,Option.bind_none]) fun args out hs h=>by
 unfold signedS at h
 split at h
 ·rename_i x b
  cases hx:wB x
  ·rw[hx] at h; cases h
  ·rw[hx] at h
   rw[wB_iff] at hx
   refine⟨1,2,(signed_text 1 1 AOut x b some).trans ?_⟩
   rw[cond_true] at h
   rw[←h]
   unfold fxB
   by_cases hd:x≤70368744177664
   ·rw[decide_eq_true hd,Bool.not_true,cond_false,cond_true,signed_fin b hx.1 hd]
   ·rw[decide_eq_false hd,Bool.not_false,cond_false,cond_true]
 ·cases h
def rightS:Fsp:=fun _ args k=>match args with
 | [.ro (.int .i64) xs]=>bif List.all (α:=Int) xs okB then k t0 else k (mis fxm 2)
 |_=>none
theorem right_text (N n:Nat) (α:Type) (x:List Int) (k:AOut→Option α):evFn real tab ((twT fsA spA).env real tab N (n+1)) N Tryz.f67 α [.ro (.int .i64) x] k =
 afterL (iterL N (fun y:Int × Unit=>bif decide (y.1<(x.length:Int)) then if 0≤y.1∧y.1<(x.length:Int) then bif decide (x.getD y.1.toNat (Int.ofNat 0) ≥
 -70368744177664) then bif !decide (x.getD y.1.toNat (Int.ofNat 0)≤70368744177664) then finL (k (mis fxm 2)) else some (LRes.cont (IntKind.i64.wrap (y.1+1),())) else finL (k
 (mis fxm 2)) else none else some (LRes.brk 0 (y.1,()))) (0,())) fun id _=>if id=0 then k (AOut.ret (AVal.tup [])) else none:=by kernel_rfl
theorem right_plain {α:Type} (x:List Int) (hl:x.length≤maxLen) (k:AOut→Option α):evFn real tab ((twT fsA spA).env real tab (x.length+1) 2) (x.length+1) Tryz.f67 α [.ro (.int .i64) x] k=bif x.all okB then k t0 else k (mis fxm 2):=by
 rw[right_text]
 generalize hf:(fun y:Int × Unit=>(_:Option (LRes (Int × Unit) α)))=f
 have e:iterL (x.length+1) f (0,())=bif (List.range x.length).any (fun i=>!okB (x.getD i 0)) then finL (k (mis fxm 2)) else some (.brk 0 ((x.length:Int),())):=by
  refine iterL_any (f:=f) (fun i:Nat=>((i:Int),())) _ (fin_not _) (brk_not _ _) x.length (fun i hi=>?_) ?_
  ·rw[←hf]
   have h1:decide ((i:Int)<(x.length:Int))=true:=decide_eq_true (by omega)
   have h2:IntKind.i64.wrap ((i:Int)+1)=((i+1:Nat):Int):=wrap_small (n:=i+1) (by omega)
   simp only[h1,cond_true,h2,show Int.ofNat 0=0 from rfl,show ((i:Int)).toNat=i from rfl]
   rw[if_pos ⟨by omega,by omega⟩]
   unfold okB
   by_cases a:-70368744177664≤x.getD i 0
   ·rw[decide_eq_true a]
    cases decide (x.getD i 0≤70368744177664)<;>rfl
   ·rw[decide_eq_false a]; rfl
  ·rw[←hf]
   have h1:decide ((x.length:Int)<(x.length:Int))=false:=decide_eq_false (by omega)
   simp only[h1,cond_false]
 rw[e,any_range x fun n=>!okB n]
 have:x.any (fun n=>!okB n)=!x.all okB:=by rw[List.not_all_eq_any_not]
 rw[this]
 cases x.all okB
 ·simp only[Bool.not_false,cond_true,cond_false]
  cases k (mis fxm 2)<;>rfl
 ·rfl
theorem rightS_ok:FspOk Tryz.prog 67 rightS:=tower_S fsA_ok spA_ok ⟨Tryz.func67,fun _ _=>by kernel_rfl⟩ (by intro α args k; unfold rightS; split<;>simp only[cond_bind,Option.bind_some,Option.bind_none]) fun args out hs h=>by
 unfold rightS at h
 split at h
 ·rename_i x
  exact⟨_,2,(right_plain x (hs _ (by simp)).len some).trans h⟩
 ·cases h
def plusS:Fsp:=fun _ args k=>match args with
 | [.agg [.int .u64 a,.int .u64 b],.agg [.int .u64 c,.int .u64 d]]=>bif wB a&&wB b&&wB c&&wB d&&decide (vw a b+vw c d<340282366920938463463374607431768211456) then k (.ret (.agg [uN (hiW (vw a b+vw c d)),uN (loW (vw a b+vw c d))])) else none
 |_=>none
theorem plus_text (N n:Nat) (α:Type) (a b c d:Int) (k:AOut→Option α):evFn real tab ((twT fsA spA).env real tab N (n+1)) N Tryz.f200 α [.agg [uN a,uN b],.agg [uN c,uN d]] k =
 bif wB b&&wB d&&(decide ((0:Int)≤0)&&decide ((0:Int)≤1)) then bif wB a&&wB c&&(decide (0≤(b+d+0) / 18446744073709551616)&&decide ((b+d+0) /
 18446744073709551616≤1)) then k (AOut.ret (AVal.agg [AVal.int IntKind.u64 ((a+c+(b+d+0) / 18446744073709551616) % 18446744073709551616),AVal.int IntKind.u64 ((b+d+0)
 % 18446744073709551616)])) else none else none:=by kernel_rfl
theorem plusS_ok:FspOk Tryz.prog 200 plusS:=tower_S fsA_ok spA_ok ⟨Tryz.func200,fun _ _=>by kernel_rfl⟩ (by intro α args k; unfold plusS; split<;>simp only[cond_bind,Option.bind_some,Option.bind_none]) fun args out hs h=>by
 unfold plusS at h
 split at h
 ·rename_i a b c d
  cases hx:wB a&&wB b&&wB c&&wB d&&decide (vw a b+vw c d<340282366920938463463374607431768211456)
  ·rw[hx] at h; cases h
  ·rw[hx,cond_true] at h
   refine⟨1,2,(plus_text 1 1 AOut a b c d some).trans (Eq.trans ?_ h)⟩
   simp only[Bool.and_eq_true,decide_eq_true_eq] at hx
   obtain⟨⟨⟨⟨h1,h2⟩,h3⟩,h4⟩,h5⟩:=hx
   rw[h1,h2,h3,h4]
   rw[wB_iff] at h1 h2 h3 h4
   unfold Word at h1 h2 h3 h4
   unfold vw at h5
   rw[decide_eq_true (show (0:Int)≤(b+d+0) / 18446744073709551616 by omega),decide_eq_true (show (b+d+0) / 18446744073709551616≤1 by omega)]
   have e1:(a+c+(b+d+0) / 18446744073709551616) % 18446744073709551616=hiW (vw a b+vw c d):=by unfold hiW vw; omega
   have e2:(b+d+0) % 18446744073709551616=loW (vw a b+vw c d):=by unfold loW vw; omega
   rw[e1,e2]
   rfl
 ·cases h
def minusS:Fsp:=fun _ args k=>match args with
 | [.agg [.int .u64 a,.int .u64 b],.agg [.int .u64 c,.int .u64 d]]=>bif wB a&&wB b&&wB c&&wB d&&decide (vw c d≤vw a b) then k (.ret (.agg [uN (hiW (vw a b-vw c d)),uN (loW (vw a b-vw c d))])) else none
 |_=>none
theorem minus_text (N n:Nat) (α:Type) (a b c d:Int) (k:AOut→Option α):evFn real tab ((twT fsA spA).env real tab N (n+1)) N Tryz.f279 α [.agg [uN a,uN b],.agg [uN c,uN d]] k =
 bif wB b&&wB d&&(decide ((0:Int)≤0)&&decide ((0:Int)≤1)) then bif wB a&&wB c&&(decide ((0:Int)≤if b<d+0 then 1 else 0)&&decide ((if b<d+0 then 1 else
 0)≤(1:Int))) then k (AOut.ret (AVal.agg [AVal.int IntKind.u64 ((a-c-if b<d+0 then 1 else 0) % 18446744073709551616),AVal.int IntKind.u64 ((b-d-0) %
 18446744073709551616)])) else none else none:=by kernel_rfl
theorem minusS_ok:FspOk Tryz.prog 279 minusS:=tower_S fsA_ok spA_ok ⟨Tryz.func279,fun _ _=>by kernel_rfl⟩ (by intro α args k; unfold minusS; split<;>simp only[cond_bind,Option.bind_some,Option.bind_none]) fun args out hs h=>by
 unfold minusS at h
 split at h
 ·rename_i a b c d
  cases hx:wB a&&wB b&&wB c&&wB d&&decide (vw c d≤vw a b)
  ·rw[hx] at h; cases h
  ·rw[hx,cond_true] at h
   refine⟨1,2,(minus_text 1 1 AOut a b c d some).trans (Eq.trans ?_ h)⟩
   simp only[Bool.and_eq_true,decide_eq_true_eq] at hx
   obtain⟨⟨⟨⟨h1,h2⟩,h3⟩,h4⟩,h5⟩:=hx
   rw[h1,h2,h3,h4]
   rw[wB_iff] at h1 h2 h3 h4
   unfold Word at h1 h2 h3 h4
   unfold vw at h5
   have e0:∃z:Int,(if b<d+0 then 1 else 0)=z∧(z=0∧d≤b∨z=1∧b<d):=⟨_,rfl,by split<;>omega⟩
   obtain⟨z,hz,hz'⟩:=e0
   rw[hz,decide_eq_true (show (0:Int)≤z by omega),decide_eq_true (show z≤1 by omega)]
   have e1:(a-c-z) % 18446744073709551616=hiW (vw a b-vw c d):=by unfold hiW vw; omega
   have e2:(b-d-0) % 18446744073709551616=loW (vw a b-vw c d):=by unfold loW vw; omega
   rw[e1,e2]
   rfl
 ·cases h
theorem cmp_vw {a b c d:Int} (hb:Word b) (hd:Word d):orI (cmpI a c) (cmpI b d)=cmp3 (vw a b) (vw c d):=by
 unfold Word at hb hd
 unfold orI cmpI cmp3 vw
 repeat' split
 all_goals omega
def cmpVS:Fsp:=fun _ args k=>match args with
 | [.agg [.int .u64 a,.int .u64 b],.agg [.int .u64 c,.int .u64 d]]=>bif wB b&&wB d then k (.ret (.int .i64 (cmp3 (vw a b) (vw c d)))) else none
 |_=>none
theorem cmpVS_ok:FspOk Tryz.prog 123 cmpVS where
 enter:=cmpWS_ok.enter
 nat:=by intro α args k; unfold cmpVS; split<;>simp only[cond_bind,Option.bind_some,Option.bind_none]
 calls:=fun args out h=>cmpWS_ok.calls args out (by
  unfold cmpVS at h
  split at h
  ·rename_i a b c d
   cases hx:wB b&&wB d
   ·rw[hx] at h; cases h
   ·rw[hx] at h; cases h
    simp only[Bool.and_eq_true,wB_iff] at hx
    simp only[cmpWS,cmp_vw hx.1 hx.2]
  ·cases h)
def howOf (g:Nat):Option Int:=
 if g=117 then some 0 else
 if g=118 then some 1 else
 if g=119 then some 2 else
 if g=120 then some 3 else
 none
def fsB:FuncId→Option Fsp:=fun g=>
 if g=171 then some sizeS else
 if g=172 then some sizeS else
 if g=124 then some signedS else
 if g=67 then some rightS else
 if g=200 then some plusS else
 if g=279 then some minusS else
 if g=123 then some cmpVS else fsA g
theorem fsB_ok:FsOk fsB:=
 fs_cons sizeS_ok <|
 fs_cons isizeS_ok <|
 fs_cons signedS_ok <|
 fs_cons rightS_ok <|
 fs_cons plusS_ok <|
 fs_cons minusS_ok <|
 fs_cons cmpVS_ok <|
 fsA_ok
def rndP (how:Int) (neg:Bool) (n d:Int):Int:=bif decide (n / d<18446744073709551616) then rnd how neg n d % 18446744073709551616 else 18446744073709551616
def fitK {α:Type} (neg:Bool) (n:Int) (k:AOut→Option α):Option α:=bif fxB n then k (i1 (sg neg n)) else k (mis fxm 4)
def qEnd {α:Type} (q:Int) (neg:Bool) (k:AOut→Option α):Option α:=bif wB q then fitK neg q k else none
theorem fitK_bind {α β:Type} (neg:Bool) (n:Int) (k:AOut→Option α) (K:α→Option β):(fitK neg n k).bind K=fitK neg n fun o=>(k o).bind K:=by unfold fitK; rw[cond_bind]
def quotS:Fsp:=fun _ args k=>match args with
 | [.agg [.int .u64 h,.int .u64 l],.int .u64 d,.bool neg,.fn g []]=>
   match howOf g with
   |some how=>bif wB h&&wB l&&wB d&&decide (0<d) then fitK neg (rndP how neg (vw h l) d) k else none
   |none=>none
 |_=>none
theorem qEnd_of {α:Type} {q:Int} (neg:Bool) (k:AOut→Option α) (h:0≤q∧q<18446744073709551616):qEnd q neg k=fitK neg q k:=by
 unfold qEnd
 rw[wB_iff.2 h,cond_true]
theorem rem_mod {h l d:Int}:remI h l d=vw h l % d:=rfl
theorem quot_big {how:Int} {neg:Bool} {h l d:Int} (h0:0<d) (hl:Word l) (hd:d≤h) {α:Type} (k:AOut→Option α):fitK neg (rndP how neg (vw h l) d) k=k (mis fxm 4):=by
 have:¬vw h l / d<18446744073709551616:=by
  have e:18446744073709551616*d≤vw h l:=by unfold vw; unfold Word at hl; omega
  have:=Int.le_ediv_of_mul_le h0 e
  omega
 unfold rndP
 rw[decide_eq_false this]
 rfl
theorem quot_small {how:Int} {neg:Bool} {h l d:Int} (hh:Word h) (hl:Word l) (hd:h<d) {b:Bool} (hb:up1 how neg (remI h l d) d=b):rndP how neg (vw h l) d=(quoI h l d+bif b then 1 else 0) % 18446744073709551616∧0≤quoI h l d∧quoI h l d<18446744073709551616:=by
 unfold Word at hh hl
 have h1:vw h l / d<18446744073709551616:=by
  refine Int.ediv_lt_of_lt_mul (by omega) ?_
  unfold vw
  have:(h+1)*18446744073709551616≤d*18446744073709551616:=Int.mul_le_mul_of_nonneg_right (by omega) (by omega)
  rw[Int.mul_comm 18446744073709551616]
  omega
 have h2:0≤vw h l / d:=Int.ediv_nonneg (by unfold vw; omega) (by omega)
 refine⟨?_,h2,h1⟩
 unfold rndP rnd
 rw[decide_eq_true h1,cond_true,←rem_mod,hb]
 rfl
theorem quot_up {α:Type} {q:Int} (neg b:Bool) (k:AOut→Option α) (h:0≤q∧q<18446744073709551616):(bif b then qEnd (IntKind.u64.wrap (q+1)) neg k else qEnd q neg k)=fitK neg ((q+bif b then 1 else 0) % 18446744073709551616) k:=by
 cases b
 ·rw[cond_false,cond_false,qEnd_of _ _ h,Int.add_zero,show q % 18446744073709551616=q by omega]
 ·rw[cond_true,cond_true,IntKind.wrap_u64,qEnd_of _ _ (by omega)]
theorem quot_plain {α:Type} {h l d:Int} {neg:Bool} {how:Int} (hx:(wB h&&wB l&&wB d&&decide (0<d))=true) (m:Bool) (hm:0<remI h l d→up1 how neg (remI h l d) d=m) (k:AOut→Option α) (M:Option α)
  (hM:M=bif m then qEnd (IntKind.u64.wrap (quoI h l d+1)) neg k else qEnd (quoI h l d) neg k) :
  (bif wB h&&wB l&&wB d then
   bif decide (d≤h) then k (mis fxm 4)
   else
    bif decide (remI h l d>0) then
     bif wB 0&&wB (remI h l d)&&wB 0&&wB (remI h l d)&&decide (vw 0 (remI h l d)+vw 0 (remI h l d)<340282366920938463463374607431768211456) then
      bif wB (loW (vw 0 (remI h l d)+vw 0 (remI h l d)))&&wB d then M
      else none
     else none
    else qEnd (quoI h l d) neg k
  else none)=fitK neg (rndP how neg (vw h l) d) k:=by
 simp only[Bool.and_eq_true,decide_eq_true_eq] at hx
 obtain⟨⟨⟨h1,h2⟩,h3⟩,h4⟩:=hx
 rw[h1,h2,h3]
 rw[wB_iff] at h1 h2 h3
 simp only[Bool.and_self,cond_true]
 by_cases hd:d≤h
 ·rw[decide_eq_true hd,cond_true,quot_big h4 h2 hd]
 ·rw[decide_eq_false hd,cond_false]
  have r0:=Int.emod_nonneg (vw h l) (show d≠0 by omega)
  have r1:=Int.emod_lt_of_pos (vw h l) h4
  rw[←rem_mod] at r0 r1
  by_cases hr:0<remI h l d
  ·have hw:wB (remI h l d)=true:=wB_iff.2 (by unfold Word at *; omega)
   rw[decide_eq_true (show remI h l d>0 from hr),cond_true,hw,wB_iff.2 (show Word 0 by unfold Word; omega),decide_eq_true (show vw 0 (remI h l d)+vw 0 (remI h l d)<340282366920938463463374607431768211456 by unfold vw; unfold Word at h3; omega),lo_wB]
   simp only[Bool.and_self,cond_true,hM]
   obtain⟨e1,e2⟩:=quot_small (neg:=neg) h1 h2 (by omega) (hm hr)
   rw[quot_up _ _ _ e2,e1]
  ·rw[decide_eq_false (show ¬remI h l d>0 from hr),cond_false]
   have hu:up1 how neg (remI h l d) d=false:=by unfold up1; rw[decide_eq_false hr]; rfl
   obtain⟨e1,e2⟩:=quot_small (neg:=neg) h1 h2 (by omega) hu
   rw[qEnd_of _ _ e2,e1,cond_false,Int.add_zero,show quoI h l d % 18446744073709551616=quoI h l d by omega]
theorem quot0_text (N n:Nat) (α:Type) (h l d:Int) (neg:Bool) (k:AOut→Option α):evFn real tab ((twT fsB spA).env real tab N (n+2)) N Tryz.f170 α [.agg [uN h,uN l],uN d,.bool neg,.fn 117 []] k =
 bif wB h&&wB l&&wB d then bif decide (d≤h) then k (mis fxm 4) else bif decide (remI h l d>0) then bif wB 0&&wB (remI h l d)&&wB 0&&wB (remI h l d)&&decide (vw 0
 (remI h l d)+vw 0 (remI h l d)<340282366920938463463374607431768211456) then bif wB (loW (vw 0 (remI h l d)+vw 0 (remI h l d)))&&wB d then qEnd (quoI h l d) neg k else none
 else none else qEnd (quoI h l d) neg k else none:=by kernel_rfl
theorem quot0_plain (N n:Nat) (α:Type) (h l d:Int) (neg:Bool) (hx:(wB h&&wB l&&wB d&&decide (0<d))=true) (k:AOut→Option α):evFn real tab ((twT fsB spA).env real tab N (n+2)) N Tryz.f170 α [.agg [uN h,uN l],uN d,.bool neg,.fn 117 []] k=fitK neg (rndP 0 neg (vw h l) d) k:=
 (quot0_text N n α h l d neg k).trans (quot_plain hx (false) (fun hr=>by unfold up1; rw[decide_eq_true hr]; rfl) k _ rfl)
theorem quot1_text (N n:Nat) (α:Type) (h l d:Int) (neg:Bool) (k:AOut→Option α):evFn real tab ((twT fsB spA).env real tab N (n+2)) N Tryz.f170 α [.agg [uN h,uN l],uN d,.bool neg,.fn 118 []] k =
 bif wB h&&wB l&&wB d then bif decide (d≤h) then k (mis fxm 4) else bif decide (remI h l d>0) then bif wB 0&&wB (remI h l d)&&wB 0&&wB (remI h l d)&&decide (vw 0
 (remI h l d)+vw 0 (remI h l d)<340282366920938463463374607431768211456) then bif wB (loW (vw 0 (remI h l d)+vw 0 (remI h l d)))&&wB d then bif neg then qEnd
 (IntKind.u64.wrap (quoI h l d+1)) neg k else qEnd (quoI h l d) neg k else none else none else qEnd (quoI h l d) neg k else none:=by kernel_rfl
theorem quot1_plain (N n:Nat) (α:Type) (h l d:Int) (neg:Bool) (hx:(wB h&&wB l&&wB d&&decide (0<d))=true) (k:AOut→Option α):evFn real tab ((twT fsB spA).env real tab N (n+2)) N Tryz.f170 α [.agg [uN h,uN l],uN d,.bool neg,.fn 118 []] k=fitK neg (rndP 1 neg (vw h l) d) k:=
 (quot1_text N n α h l d neg k).trans (quot_plain hx (neg) (fun hr=>by unfold up1; rw[decide_eq_true hr]; rfl) k _ rfl)
theorem quot2_text (N n:Nat) (α:Type) (h l d:Int) (neg:Bool) (k:AOut→Option α):evFn real tab ((twT fsB spA).env real tab N (n+2)) N Tryz.f170 α [.agg [uN h,uN l],uN d,.bool neg,.fn 119 []] k =
 bif wB h&&wB l&&wB d then bif decide (d≤h) then k (mis fxm 4) else bif decide (remI h l d>0) then bif wB 0&&wB (remI h l d)&&wB 0&&wB (remI h l d)&&decide (vw 0
 (remI h l d)+vw 0 (remI h l d)<340282366920938463463374607431768211456) then bif wB (loW (vw 0 (remI h l d)+vw 0 (remI h l d)))&&wB d then bif !neg then qEnd
 (IntKind.u64.wrap (quoI h l d+1)) neg k else qEnd (quoI h l d) neg k else none else none else qEnd (quoI h l d) neg k else none:=by kernel_rfl
theorem quot2_plain (N n:Nat) (α:Type) (h l d:Int) (neg:Bool) (hx:(wB h&&wB l&&wB d&&decide (0<d))=true) (k:AOut→Option α):evFn real tab ((twT fsB spA).env real tab N (n+2)) N Tryz.f170 α [.agg [uN h,uN l],uN d,.bool neg,.fn 119 []] k=fitK neg (rndP 2 neg (vw h l) d) k:=
 (quot2_text N n α h l d neg k).trans (quot_plain hx (!neg) (fun hr=>by unfold up1; rw[decide_eq_true hr]; rfl) k _ rfl)
theorem quot3_text (N n:Nat) (α:Type) (h l d:Int) (neg:Bool) (k:AOut→Option α):evFn real tab ((twT fsB spA).env real tab N (n+2)) N Tryz.f170 α [.agg [uN h,uN l],uN d,.bool neg,.fn 120 []] k =
 bif wB h&&wB l&&wB d then bif decide (d≤h) then k (mis fxm 4) else bif decide (remI h l d>0) then bif wB 0&&wB (remI h l d)&&wB 0&&wB (remI h l d)&&decide (vw 0
 (remI h l d)+vw 0 (remI h l d)<340282366920938463463374607431768211456) then bif wB (loW (vw 0 (remI h l d)+vw 0 (remI h l d)))&&wB d then bif decide (cmp3 (vw (hiW (vw 0
 (remI h l d)+vw 0 (remI h l d))) (loW (vw 0 (remI h l d)+vw 0 (remI h l d)))) (vw 0 d)≥0) then qEnd (IntKind.u64.wrap (quoI h l d+1)) neg k else qEnd (quoI h l d) neg k else
 none else none else qEnd (quoI h l d) neg k else none:=by kernel_rfl
theorem quot3_plain (N n:Nat) (α:Type) (h l d:Int) (neg:Bool) (hx:(wB h&&wB l&&wB d&&decide (0<d))=true) (k:AOut→Option α):evFn real tab ((twT fsB spA).env real tab N (n+2)) N Tryz.f170 α [.agg [uN h,uN l],uN d,.bool neg,.fn 120 []] k=fitK neg (rndP 3 neg (vw h l) d) k:=
 (quot3_text N n α h l d neg k).trans (quot_plain hx (decide (cmp3 (vw (hiW (vw 0 (remI h l d)+vw 0 (remI h l d))) (loW (vw 0 (remI h l d)+vw 0 (remI h l d)))) (vw 0 d)≥0)) (fun hr=>by
  unfold up1; rw[decide_eq_true hr,vw_hl]
  show decide (d≤remI h l d+remI h l d)=_
  rw[decide_eq_decide]; unfold cmp3 vw; repeat' split
  all_goals omega) k _ rfl)
theorem how_cases {g:Nat} {how:Int} (h:howOf g=some how):False
 ∨ (g=117∧how=0)
 ∨ (g=118∧how=1)
 ∨ (g=119∧how=2)
 ∨ (g=120∧how=3)
 := by
 unfold howOf at h
 repeat' split at h
 all_goals first|(cases h; simp[*]; done)|cases h
theorem quotS_ok:FspOk Tryz.prog 170 quotS:=tower_S fsB_ok spA_ok ⟨Tryz.func170,fun _ _=>by kernel_rfl⟩ (by intro α args k; unfold quotS; split<;>(try split)<;>simp only[cond_bind,fitK_bind,Option.bind_some,Option.bind_none]) fun args out hs h=>by
 unfold quotS at h
 split at h
 ·rename_i h1 l d neg g
  split at h
  ·rename_i how hg
   cases hx:wB h1&&wB l&&wB d&&decide (0<d)
   ·rw[hx] at h; cases h
   ·rw[hx,cond_true] at h
    rcases how_cases hg with hf
     |⟨rfl,rfl⟩
     |⟨rfl,rfl⟩
     |⟨rfl,rfl⟩
     |⟨rfl,rfl⟩
    ·cases hf
    ·exact⟨1,2,(quot0_plain 1 0 AOut h1 l d neg hx some).trans h⟩
    ·exact⟨1,2,(quot1_plain 1 0 AOut h1 l d neg hx some).trans h⟩
    ·exact⟨1,2,(quot2_plain 1 0 AOut h1 l d neg hx some).trans h⟩
    ·exact⟨1,2,(quot3_plain 1 0 AOut h1 l d neg hx some).trans h⟩
  ·cases h
 ·cases h
theorem or_add {X Y:Int} (k:Nat) (hX:0≤X∧X<18446744073709551616) (hk:X % (2^k:Nat)=0) (hY:0≤Y∧Y<(2^k:Nat)) (hs:X+Y<18446744073709551616):IntKind.u64.wrap (((BitVec.ofInt 64 X ||| BitVec.ofInt 64 Y).toNat:Nat):Int)=X+Y:=by
 obtain⟨x,rfl⟩:=Int.eq_ofNat_of_zero_le hX.1
 obtain⟨y,rfl⟩:=Int.eq_ofNat_of_zero_le hY.1
 have hy:y<2^k:=by exact_mod_cast hY.2
 have hx:x % 2^k=0:=by exact_mod_cast hk
 have e:x=2^k*(x / 2^k):=by have:=Nat.div_add_mod x (2^k); omega
 have e1:(BitVec.ofInt 64 (x:Int)).toNat=x:=by rw[BitVec.toNat_ofInt]; have:x<18446744073709551616:=by omega
                                               simp; omega
 have e2:(BitVec.ofInt 64 (y:Int)).toNat=y:=by rw[BitVec.toNat_ofInt]; have:y<18446744073709551616:=by omega
                                               simp; omega
 rw[BitVec.toNat_or,e1,e2]
 have e3:x ||| y=x+y:=by
  rw[e,←Nat.two_pow_add_eq_or_of_lt hy]
 rw[e3,u64w _ (by omega)]
 omega
theorem bit_search {α:Type} {f:Int × Int × Unit→Option (LRes (Int × Int × Unit) α)} (p:Nat→Bool) (K:Nat)
  (hf:∀n k,n % 2^(k+1)=0→n+2^(k+1)≤2^K→p n=true→f ((n:Int),((2^k:Nat):Int),())=some (.cont (((bif p (n+2^k) then n+2^k else n:Nat):Int),((2^k / 2:Nat):Int),())))
  (hend:∀n:Nat,f ((n:Int),0,())=some (.brk 0 ((n:Int),0,()))) :
  ∀(k:Nat) (n:Nat),n % 2^k=0→n+2^k≤2^K→p n=true→∀N,k<N→iterL N f ((n:Int),((2^k / 2:Nat):Int),())=some (.brk 0 (((bs p k n:Nat):Int),0,()))
 |0,n,h1,h2,h3,N,hN=>by
  obtain⟨N,rfl⟩:∃M,N=M+1:=⟨N-1,by omega⟩
  have e:(((2^0 / 2:Nat)):Int)=0:=rfl
  rw[e]
  simp only[iterL,hend]
  rfl
 |k+1,n,h1,h2,h3,N,hN=>by
  obtain⟨N,rfl⟩:∃M,N=M+1:=⟨N-1,by omega⟩
  have e0:2^(k+1) / 2=2^k:=by rw[Nat.pow_succ]; omega
  have e1:2^(k+1)=2^k+2^k:=by rw[Nat.pow_succ]; omega
  have hd:n % 2^k=0:=by
   have:(n % 2^(k+1)) % 2^k=n % 2^k:=Nat.mod_mod_of_dvd _ ⟨2,by rw[Nat.pow_succ]⟩
   rw[h1] at this
   simpa using this.symm
  have hf':=hf n k h1 h2 h3
  rw[e0]
  simp only[iterL,hf',bs]
  cases hp:p (n+2^k)
  ·exact bit_search p K hf hend k n hd (by omega) h3 N (by omega)
  ·exact bit_search p K hf hend k (n+2^k) (by rw[Nat.add_mod_right]; exact hd) (by omega) hp N (by omega)
def at3 (a b c:Int):Nat→Int
 |0=>a
 |1=>b
 |_=>c
def idx3 {β:Type} (n:Int) (A:Nat→Option β):Option β:=
 if 0≤n∧n<((3:Nat):Int) then
  bif n==((0:Nat):Int) then A 0 else bif n==((0+1:Nat):Int) then A 1 else bif n==((0+1+1:Nat):Int) then A 2 else none
 else none
def lexLoop {α:Type} (N:Nat) (r q:Nat→Int) (k:AOut→Option α):Option α:=
 afterL
  (iterL N
   (fun x:Int × Unit=>
    bif decide (x.1<3) then
     idx3 x.1 fun i1=>idx3 x.1 fun i2=>bif r i1 != q i2 then idx3 x.1 fun i3=>idx3 x.1 fun i4=>finL (k (b1 (decide (r i3<q i4)))) else some (LRes.cont (IntKind.i64.wrap (x.1+1),()))
    else some (LRes.brk 0 (x.1,())))
   (0,()))
  fun id _=>if id=0 then k (b1 true) else none
set_option maxRecDepth 100000 in
theorem below_text (N n0:Nat) (α:Type) (n x h l:Int) (k:AOut→Option α):evFn real tab ((twT fsB spA).env real tab N (n0+2)) N Tryz.f295 α [uN n,.agg [uN h,uN l],uN x] k =
 bif wB (IntKind.u64.wrap (n*n))&&wB l then bif wB (IntKind.u64.wrap (n*n))&&wB h then bif wB (hiW (IntKind.u64.wrap (n*n)*h))&&wB (loW (IntKind.u64.wrap (n*n)*h))
 && wB 0&&wB (hiW (IntKind.u64.wrap (n*n)*l))&&decide (vw (hiW (IntKind.u64.wrap (n*n)*h)) (loW (IntKind.u64.wrap (n*n)*h))+vw 0 (hiW (IntKind.u64.wrap (n*n) *
 l))<340282366920938463463374607431768211456) then bif wB x&&wB x then lexLoop N (at3 (hiW (vw (hiW (IntKind.u64.wrap (n*n)*h)) (loW (IntKind.u64.wrap (n*n)*h))+vw 0
 (hiW (IntKind.u64.wrap (n*n)*l)))) (loW (vw (hiW (IntKind.u64.wrap (n*n)*h)) (loW (IntKind.u64.wrap (n*n)*h))+vw 0 (hiW (IntKind.u64.wrap (n*n)*l)))) (loW
 (IntKind.u64.wrap (n*n)*l))) (at3 ((hiW (x*x)).fdiv (2^min (Int.toNat 32) 64)) (IntKind.u64.wrap (((BitVec.ofInt 64 (IntKind.u64.wrap (hiW (x*x)*2^min (Int.toNat 32)
 64)) ||| BitVec.ofInt 64 ((loW (x*x)).fdiv (2^min (Int.toNat 32) 64))).toNat:Nat):Int)) (IntKind.u64.wrap (loW (x*x)*2^min (Int.toNat 32) 64))) k else none else none
 else none else none:=by kernel_rfl
theorem lex_plain {α:Type} (N:Nat) (a b c d e f:Int) (k:AOut→Option α):lexLoop (N+4) (at3 a b c) (at3 d e f) k=k (b1 (bif a != d then decide (a<d) else bif b != e then decide (b<e) else bif c != f then decide (c<f) else true)):=by
 unfold lexLoop
 generalize hf:(fun x:Int × Unit=>(_:Option (LRes (Int × Unit) α)))=F
 have h0:F (0,())=bif a != d then finL (k (b1 (decide (a<d)))) else some (LRes.cont (1,())):=by rw[←hf]; rfl
 have h1:F (1,())=bif b != e then finL (k (b1 (decide (b<e)))) else some (LRes.cont (2,())):=by rw[←hf]; rfl
 have h2:F (2,())=bif c != f then finL (k (b1 (decide (c<f)))) else some (LRes.cont (3,())):=by rw[←hf]; rfl
 have h3:F (3,())=some (LRes.brk 0 (3,())):=by rw[←hf]; rfl
 simp only[iterL,h0]
 cases a != d
 ·simp only[cond_false,h1]
  cases b != e
  ·simp only[cond_false,h2]
   cases c != f
   ·simp only[cond_false,h3]
    rfl
   ·simp only[cond_true]
    cases k (b1 (decide (c<f)))<;>rfl
  ·simp only[cond_true]
   cases k (b1 (decide (b<e)))<;>rfl
 ·simp only[cond_true]
  cases k (b1 (decide (a<d)))<;>rfl
theorem lex_le {a b c d e f:Int} (hb:Word b) (hc:Word c) (he:Word e) (hf:Word f):(bif a != d then decide (a<d) else bif b != e then decide (b<e) else bif c != f then decide (c<f) else true)=decide ((a*18446744073709551616+b)*18446744073709551616+c≤(d*18446744073709551616+e)*18446744073709551616+f):=by
 unfold Word at hb hc he hf
 by_cases h1:a=d
 ·by_cases h2:b=e
  ·by_cases h3:c=f
   ·subst h1; subst h2; subst h3; simp
   ·have:(c != f)=true:=by simp[h3]
    subst h1; subst h2
    simp only[this,bne_self_eq_false,cond_false,cond_true]
    rw[decide_eq_decide]; omega
  ·have:(b != e)=true:=by simp[h2]
   subst h1
   simp only[this,bne_self_eq_false,cond_false,cond_true]
   rw[decide_eq_decide]; omega
 ·have:(a != d)=true:=by simp[h1]
  simp only[this,cond_true]
  rw[decide_eq_decide]; omega
def blB (n h l x:Int):Bool:=(decide (0≤n)&&decide (n≤131072))&&(wB h&&wB l)&&(decide (0≤x)&&decide (x≤70368744177664))&&decide (vw h l<19807040628566084398385987584)
def belowS:Fsp:=fun _ args k=>match args with
 | [.int .u64 n,.agg [.int .u64 h,.int .u64 l],.int .u64 x]=>bif blB n h l x then k (b1 (decide (n*n*vw h l≤4294967296*(x*x)))) else none
 |_=>none
theorem sq_in {x B:Int} (h0:0≤x) (h1:x≤B):0≤x*x∧x*x≤B*B:=⟨Int.mul_nonneg h0 h0,Int.mul_le_mul h1 h1 h0 (by omega)⟩
theorem fdiv_pos (a:Int) {b:Int} (hb:0≤b):a.fdiv b=a / b:=Int.fdiv_eq_ediv_of_nonneg a hb
theorem below_plain (N n0:Nat) (α:Type) {n x h l:Int} (hb:blB n h l x=true) (k:AOut→Option α):evFn real tab ((twT fsB spA).env real tab (N+4) (n0+2)) (N+4) Tryz.f295 α [uN n,.agg [uN h,uN l],uN x] k=k (b1 (decide (n*n*vw h l≤4294967296*(x*x)))):=by
 rw[below_text]
 simp only[blB,Bool.and_eq_true,decide_eq_true_eq,wB_iff] at hb
 obtain⟨⟨⟨⟨n0',n1⟩,hh,hl⟩,x0,x1⟩,hs⟩:=hb
 obtain⟨m0,m1⟩:=sq_in n0' n1
 obtain⟨p0,p1⟩:=sq_in x0 x1
 rw[u64w (n*n) (by omega)]
 have hm:Word (n*n):=by unfold Word; omega
 have hx:Word x:=by unfold Word; omega
 generalize n*n=m at *
 generalize x*x=P at *
 have q1:=mul_lt_128 hm hh
 have q2:=mul_lt_128 hm hl
 have hsm:m*vw h l=m*h*18446744073709551616+m*l:=by unfold vw; rw[Int.mul_add,Int.mul_assoc]
 have hle:m*vw h l≤17179869184*19807040628566084398385987584:=Int.mul_le_mul m1 (by omega) (by unfold vw Word at *; omega) (by omega)
 have hA:m*h+hiW (m*l)<340282366920938463463374607431768211456:=by unfold hiW; omega
 have ev:vw 0 (hiW (m*l))=hiW (m*l):=by unfold vw; omega
 rw[wB_iff.2 hm,wB_iff.2 hh,wB_iff.2 hl,wB_iff.2 hx,hi_wB q1,hi_wB q2,lo_wB,vw_hl,ev,decide_eq_true hA,show wB 0=true from rfl]
 simp only[Bool.and_self,cond_true]
 rw[lex_plain]
 have k64:(2:Int)^min (Int.toNat 32) 64=4294967296:=rfl
 have kk:(2^32:Nat)=4294967296:=rfl
 rw[k64,fdiv_pos _ (by omega),fdiv_pos _ (by omega)]
 have wq1:=hiW_word p0 (show P<340282366920938463463374607431768211456 by omega)
 have wq2:=loW_word P
 have hP:hiW P<4294967296:=by unfold hiW; omega
 unfold Word at wq1 wq2
 rw[u64w (hiW P*4294967296) (by omega),or_add 32 (by omega) (by omega) (by omega) (by omega)]
 have w3:Word (loW (m*h+hiW (m*l))):=loW_word _
 have w4:Word (loW (m*l)):=loW_word _
 have w5:Word (hiW P*4294967296+loW P / 4294967296):=by unfold Word; omega
 have w6:Word (IntKind.u64.wrap (loW P*4294967296)):=by rw[IntKind.wrap_u64]; unfold Word; omega
 rw[lex_le w3 w4 w5 w6]
 have e1:=hiW_loW (m*h+hiW (m*l))
 have e2:=hiW_loW (m*l)
 have e3:=hiW_loW P
 rw[IntKind.wrap_u64,hsm]
 congr 2
 rw[decide_eq_decide]
 omega
theorem belowS_ok:FspOk Tryz.prog 295 belowS:=tower_S fsB_ok spA_ok ⟨Tryz.func295,fun _ _=>by kernel_rfl⟩ (by intro α args k; unfold belowS; split<;>simp only[cond_bind,Option.bind_some,Option.bind_none]) fun args out hs h=>by
 unfold belowS at h
 split at h
 ·rename_i n h1 l x
  cases hb:blB n h1 l x
  ·rw[hb] at h; cases h
  ·rw[hb,cond_true] at h
   exact⟨4,2,(below_plain 0 0 AOut hb some).trans h⟩
 ·cases h
def fsC:FuncId→Option Fsp:=fun g=>
 if g=295 then some belowS else
 if g=170 then some quotS else fsB g
theorem fsC_ok:FsOk fsC:=
 fs_cons belowS_ok <|
 fs_cons quotS_ok <|
 fsB_ok
def shrP (x s:Int) (m:Nat):Bool:=decide ((m:Int)*m*s≤4294967296*(x*x))
theorem shr_eq (x s:Int):shr x s=((bs (shrP x s) 17 0:Nat):Int):=by rw[shr_C]; rfl
def shB (x h l:Int):Bool:=(decide (0≤x)&&decide (x≤70368744177664))&&(wB h&&wB l)&&(decide (0<vw h l)&&decide (vw h l<19807040628566084398385987584))&&decide (x*x≤vw h l)
noncomputable def shareFS:Fsp:=fun _ args k=>match args with
 | [.int .u64 x,.agg [.int .u64 h,.int .u64 l]]=>bif shB x h l then k (.ret (.int .u64 (shr x (vw h l)))) else none
 |_=>none
theorem shr_anti {x s:Int} (hs:0≤s) (m n:Nat) (h:n≤m) (hm:shrP x s m=true):shrP x s n=true:=by
 simp only[shrP,decide_eq_true_eq] at hm ⊢
 have:(n:Int)*n≤m*m:=Int.mul_le_mul (by omega) (by omega) (by omega) (by omega)
 have:=Int.mul_le_mul_of_nonneg_right this hs
 omega
theorem shr_top {x s:Int} (hs:0<s) (hx:x*x≤s) (m:Nat) (h:65537≤m):shrP x s m=false:=by
 simp only[shrP,decide_eq_false_iff_not,Int.not_le]
 have:(65537:Int)*65537≤m*m:=Int.mul_le_mul (by omega) (by omega) (by omega) (by omega)
 have:=Int.mul_le_mul_of_nonneg_right this (Int.le_of_lt hs)
 omega
theorem shr_zero {x s:Int} (x0:0≤x):shrP x s 0=true:=by
 simp only[shrP,decide_eq_true_eq]
 have h1:=Int.mul_nonneg x0 x0
 have h2:((0:Nat):Int)*((0:Nat):Int)*s=0:=by simp
 omega
theorem share_text (N n0:Nat) (α:Type) (x h l:Int) (k:AOut→Option α):evFn real tab ((twT fsC spA).env real tab N (n0+2)) N Tryz.f277 α [uN x,.agg [uN h,uN l]] k =
 afterL (iterL N (fun (y:Int × Int × Unit)=>bif decide (y.2.1>0) then bif decide (IntKind.u64.wrap (((BitVec.ofInt 64 y.1 ||| BitVec.ofInt 64 y.2.1).toNat:Nat):Int) ≤
 65536) then bif blB (IntKind.u64.wrap (((BitVec.ofInt 64 y.1 ||| BitVec.ofInt 64 y.2.1).toNat:Nat):Int)) h l x then bif decide (IntKind.u64.wrap (((BitVec.ofInt 64 y.1 |||
 BitVec.ofInt 64 y.2.1).toNat:Nat):Int)*IntKind.u64.wrap (((BitVec.ofInt 64 y.1 ||| BitVec.ofInt 64 y.2.1).toNat:Nat):Int)*vw h l≤4294967296*(x*x)) then some
 (LRes.cont (IntKind.u64.wrap (((BitVec.ofInt 64 y.1 ||| BitVec.ofInt 64 y.2.1).toNat:Nat):Int),y.2.1.fdiv (2^min (Int.toNat 1) 64),())) else some (LRes.cont (y.1,y.2.1.fdiv
 (2^min (Int.toNat 1) 64),())) else none else some (LRes.cont (y.1,y.2.1.fdiv (2^min (Int.toNat 1) 64),())) else some (LRes.brk 0 (y.1,y.2.1,()))) (0,65536,())) fun id y
 => if id=0 then k (AOut.ret (AVal.int IntKind.u64 y.1)) else none:=by kernel_rfl
theorem share_plain (N n0:Nat) (α:Type) {x h l:Int} (hb:shB x h l=true) (k:AOut→Option α):evFn real tab ((twT fsC spA).env real tab (N+18) (n0+2)) (N+18) Tryz.f277 α [uN x,.agg [uN h,uN l]] k=k (.ret (.int .u64 (shr x (vw h l)))):=by
 rw[share_text]
 simp only[shB,Bool.and_eq_true,decide_eq_true_eq] at hb
 obtain⟨⟨⟨⟨x0,x1⟩,hh,hl⟩,hs0,hs⟩,hx⟩:=hb
 have hbl:∀m:Nat,m≤131072→blB (m:Int) h l x=true:=fun m hm=>by
  simp only[blB,hh,hl,decide_eq_true x0,decide_eq_true x1,decide_eq_true hs,decide_eq_true (show (0:Int)≤m by omega),decide_eq_true (show (m:Int)≤131072 by omega),Bool.and_self]
 have ht:=shr_top hs0 hx
 generalize vw h l=s at *
 generalize hf:(fun y:Int × Int × Unit=>(_:Option (LRes (Int × Int × Unit) α)))=f
 have e:=bit_search (f:=f) (shrP x s) 17 (fun n k h1 h2 h3=>?_) (fun n=>?_) 17 0 rfl (by omega) (shr_zero x0) (N+18) (by omega)
 ·have e':iterL (N+18) f (0,65536,())=some (.brk 0 (((bs (shrP x s) 17 0:Nat):Int),0,())):=e
  rw[e',shr_eq]
  rfl
 ·rw[←hf]
  have p17:(2:Nat)^17=131072:=rfl
  have hk:2^(k+1)=2^k+2^k:=by rw[Nat.pow_succ]; omega
  have hpos:0<2^k:=Nat.two_pow_pos k
  have hor:IntKind.u64.wrap (((BitVec.ofInt 64 (n:Int) ||| BitVec.ofInt 64 ((2^k:Nat):Int)).toNat:Nat):Int)=((n+2^k:Nat):Int):=by
   rw[or_add (k+1) (by omega) (by omega) (by omega) (by omega)]; omega
  have hsh:(((2^k:Nat):Int)).fdiv (2^min (Int.toNat 1) 64)=((2^k / 2:Nat):Int):=by
   rw[show (2:Int)^min (Int.toNat 1) 64=2 from rfl,fdiv_pos _ (by omega)]; omega
  simp only[hor,hsh,decide_eq_true (show ((2^k:Nat):Int)>0 by omega),cond_true,hbl (n+2^k) (by omega)]
  have hp:shrP x s (n+2^k)=decide (((n+2^k:Nat):Int)*((n+2^k:Nat):Int)*s≤4294967296*(x*x)):=rfl
  rw[←hp]
  by_cases hd:((n+2^k:Nat):Int)≤65536
  ·rw[decide_eq_true hd,cond_true]
   cases shrP x s (n+2^k)<;>rfl
  ·rw[decide_eq_false hd,cond_false,ht (n+2^k) (by omega)]
   rfl
 ·rw[←hf]
  rfl
theorem shareFS_ok:FspOk Tryz.prog 277 shareFS:=tower_S fsC_ok spA_ok ⟨Tryz.func277,fun _ _=>by kernel_rfl⟩ (by intro α args k; unfold shareFS; split<;>simp only[cond_bind,Option.bind_some,Option.bind_none]) fun args out hs h=>by
 unfold shareFS at h
 split at h
 ·rename_i x h1 l
  cases hb:shB x h1 l
  ·rw[hb] at h; cases h
  ·rw[hb,cond_true] at h
   exact⟨18,2,(share_plain 0 0 AOut hb some).trans h⟩
 ·cases h
theorem all2 (a b:Int):List.all [a,b] okB=(okB a&&okB b):=by simp
theorem all4 (a b c d:Int):List.all [a,b,c,d] okB=(okB a&&okB b&&okB c&&okB d):=by simp[Bool.and_assoc]
theorem all3 (a b c:Int):List.all [a,b,c] okB=(okB a&&okB b&&okB c):=by simp[Bool.and_assoc]
theorem all1 (a:Int):List.all [a] okB=okB a:=by simp
theorem ab_mul_in {a b:Int} (ha:okB a=true) (hb:okB b=true):0≤ab a*ab b∧ab a*ab b≤4951760157141521099596496896:=
 ⟨Int.mul_nonneg (ab_nn a) (ab_nn b),Int.mul_le_mul (ok_ab ha) (ok_ab hb) (ab_nn b) (by omega)⟩
def squareS:Fsp:=fun _ args k=>match args with
 | [.agg [.int .i64 x,.int .i64 y]]=>bif okB x&&okB y then k (.ret (.agg [uN (hiW (sq2 x y)),uN (loW (sq2 x y))])) else k (mis fxm 2)
 |_=>none
theorem square_text (N n:Nat) (α:Type) (a b:Int) (k:AOut→Option α):evFn real tab ((twT fsC spA).env real tab N (n+2)) N Tryz.f176 α [sN a b] k =
 bif [a,b].all okB then bif i6 a then bif i6 a then bif wB (ab a)&&wB (ab a) then bif i6 b then bif i6 b then bif wB (ab b)&&wB (ab b) then bif wB (hiW (ab a*ab a))&&wB (loW
 (ab a*ab a))&&wB (hiW (ab b*ab b))&&wB (loW (ab b*ab b))&&decide (vw (hiW (ab a*ab a)) (loW (ab a*ab a))+vw (hiW (ab b*ab b)) (loW (ab b*ab b)) <
 340282366920938463463374607431768211456) then k (AOut.ret (AVal.agg [AVal.int IntKind.u64 (hiW (vw (hiW (ab a*ab a)) (loW (ab a*ab a))+vw (hiW (ab b*ab b)) (loW (ab b*ab
 b)))),AVal.int IntKind.u64 (loW (vw (hiW (ab a*ab a)) (loW (ab a*ab a))+vw (hiW (ab b*ab b)) (loW (ab b*ab b))))])) else none else none else none else none else none else
 none else none else k (mis fxm 2):=by kernel_rfl
theorem squareS_ok:FspOk Tryz.prog 176 squareS:=tower_S fsC_ok spA_ok ⟨Tryz.func176,fun _ _=>by kernel_rfl⟩ (by intro α args k; unfold squareS; split<;>simp only[cond_bind,Option.bind_some,Option.bind_none]) fun args out hs h=>by
 unfold squareS at h
 split at h
 ·rename_i x y
  refine⟨8,2,(square_text 8 0 AOut x y some).trans (Eq.trans ?_ h)⟩
  rw[all2]
  cases hx:okB x
  ·rfl
  ·cases hy:okB y
   ·rfl
   ·have a1:=ab_mul_in hx hx
    have a2:=ab_mul_in hy hy
    simp only[i6_ok hx,i6_ok hy,wB_ab (i6_ok hx),wB_ab (i6_ok hy),hi_wB (show 0≤ab x*ab x∧ab x*ab x<_ from ⟨a1.1,by omega⟩),hi_wB (show 0≤ab y*ab y∧ab y*ab y<_ from ⟨a2.1,by omega⟩),lo_wB,vw_hl,Bool.and_self,cond_true,decide_eq_true (show ab x*ab x+ab y*ab y<340282366920938463463374607431768211456 by omega)]
    rfl
 ·cases h
def addS:Fsp:=fun _ args k=>match args with
 | [.int .i64 a,.int .i64 b]=>bif okB a&&okB b then (bif fxB (ab (a+b)) then k (i1 (a+b)) else k (mis fxm 4)) else k (mis fxm 2)
 |_=>none
def subS:Fsp:=fun _ args k=>match args with
 | [.int .i64 a,.int .i64 b]=>bif okB a&&okB b then (bif fxB (ab (a-b)) then k (i1 (a-b)) else k (mis fxm 4)) else k (mis fxm 2)
 |_=>none
theorem sum_fin {α:Type} {z:Int} (hz:i6 z=true) (k:AOut→Option α) :
  (bif i6 (IntKind.i64.wrap z) then
   bif wB (ab (IntKind.i64.wrap z)) then
    bif fxB (ab (IntKind.i64.wrap z)) then k (AOut.ret (AVal.int IntKind.i64 (sg (decide (IntKind.i64.wrap z<0)) (ab (IntKind.i64.wrap z)))))
    else k (mis fxm 4)
   else none
  else none)=bif fxB (ab z) then k (i1 z) else k (mis fxm 4):=by
 have e:=i64w z (i6_iff.1 hz)
 rw[e,hz,wB_ab hz,cond_true,cond_true]
 have:=sg_ab z
 unfold ngB at this
 rw[this]
 rfl
theorem add_text (N n:Nat) (α:Type) (a b:Int) (k:AOut→Option α):evFn real tab ((twT fsC spA).env real tab N (n+2)) N Tryz.f284 α [iN a,iN b] k =
 bif [a,b].all okB then bif i6 (IntKind.i64.wrap (a+b)) then bif wB (ab (IntKind.i64.wrap (a+b))) then bif fxB (ab (IntKind.i64.wrap (a+b))) then k (AOut.ret (AVal.int
 IntKind.i64 (sg (decide (IntKind.i64.wrap (a+b)<0)) (ab (IntKind.i64.wrap (a+b)))))) else k (mis fxm 4) else none else none else k (mis fxm 2):=by kernel_rfl
theorem sub_text (N n:Nat) (α:Type) (a b:Int) (k:AOut→Option α):evFn real tab ((twT fsC spA).env real tab N (n+2)) N Tryz.f271 α [iN a,iN b] k =
 bif [a,b].all okB then bif i6 (IntKind.i64.wrap (a-b)) then bif wB (ab (IntKind.i64.wrap (a-b))) then bif fxB (ab (IntKind.i64.wrap (a-b))) then k (AOut.ret (AVal.int
 IntKind.i64 (sg (decide (IntKind.i64.wrap (a-b)<0)) (ab (IntKind.i64.wrap (a-b)))))) else k (mis fxm 4) else none else none else k (mis fxm 2):=by kernel_rfl
theorem addS_ok:FspOk Tryz.prog 284 addS:=tower_S fsC_ok spA_ok ⟨Tryz.func284,fun _ _=>by kernel_rfl⟩ (by intro α args k; unfold addS; split<;>simp only[cond_bind,Option.bind_some,Option.bind_none]) fun args out hs h=>by
 unfold addS at h
 split at h
 ·rename_i x y
  refine⟨8,2,(add_text 8 0 AOut x y some).trans (Eq.trans ?_ h)⟩
  rw[all2]
  cases hx:okB x
  ·rfl
  ·cases hy:okB y
   ·rfl
   ·rw[Bool.and_self,cond_true,cond_true,sum_fin]
    rw[ok_iff] at hx hy; rw[i6_iff]; omega
 ·cases h
theorem subS_ok:FspOk Tryz.prog 271 subS:=tower_S fsC_ok spA_ok ⟨Tryz.func271,fun _ _=>by kernel_rfl⟩ (by intro α args k; unfold subS; split<;>simp only[cond_bind,Option.bind_some,Option.bind_none]) fun args out hs h=>by
 unfold subS at h
 split at h
 ·rename_i x y
  refine⟨8,2,(sub_text 8 0 AOut x y some).trans (Eq.trans ?_ h)⟩
  rw[all2]
  cases hx:okB x
  ·rfl
  ·cases hy:okB y
   ·rfl
   ·rw[Bool.and_self,cond_true,cond_true,sum_fin]
    rw[ok_iff] at hx hy; rw[i6_iff]; omega
 ·cases h
def prP (a b how:Int):Int:=rndP how (xorB (ngB a) (ngB b)) (ab a*ab b) 65536
def mulS:Fsp:=fun _ args k=>match args with
 | [.int .i64 a,.int .i64 b,.fn g []]=>
   match howOf g with
   |some how=>bif okB a&&okB b then fitK (xorB (ngB a) (ngB b)) (prP a b how) k else k (mis fxm 2)
   |none=>none
 |_=>none
def mulText {α:Type} (a b how:Int) (k:AOut→Option α):Option α:=
 bif [a,b].all okB then
  bif i6 a then
   bif i6 b then
    bif wB (ab a)&&wB (ab b) then
     bif wB (hiW (ab a*ab b))&&wB (loW (ab a*ab b))&&wB 65536&&decide ((0:Int)<65536) then
      fitK (!(decide (a<0)==decide (b<0))) (rndP how (!(decide (a<0)==decide (b<0))) (vw (hiW (ab a*ab b)) (loW (ab a*ab b))) 65536) k
     else none
    else none
   else none
  else none
 else k (mis fxm 2)
theorem mul_fin {α:Type} (a b how:Int) (k:AOut→Option α):mulText a b how k=bif okB a&&okB b then fitK (xorB (ngB a) (ngB b)) (prP a b how) k else k (mis fxm 2):=by
 unfold mulText
 rw[all2]
 cases hx:okB a
 ·rfl
 ·cases hy:okB b
  ·rfl
  ·have a1:=ab_mul_in hx hy
   simp only[i6_ok hx,i6_ok hy,wB_ab (i6_ok hx),wB_ab (i6_ok hy),hi_wB (show 0≤ab a*ab b∧ab a*ab b<_ from ⟨a1.1,by omega⟩),lo_wB,vw_hl,Bool.and_self,cond_true,show wB 65536=true from rfl,show decide ((0:Int)<65536)=true from rfl]
   rfl
theorem mul0_text (N n:Nat) (α:Type) (a b:Int) (k:AOut→Option α):evFn real tab ((twT fsC spA).env real tab N (n+2)) N Tryz.f283 α [iN a,iN b,.fn 117 []] k=mulText a b 0 k:=by kernel_rfl
theorem mul1_text (N n:Nat) (α:Type) (a b:Int) (k:AOut→Option α):evFn real tab ((twT fsC spA).env real tab N (n+2)) N Tryz.f283 α [iN a,iN b,.fn 118 []] k=mulText a b 1 k:=by kernel_rfl
theorem mul2_text (N n:Nat) (α:Type) (a b:Int) (k:AOut→Option α):evFn real tab ((twT fsC spA).env real tab N (n+2)) N Tryz.f283 α [iN a,iN b,.fn 119 []] k=mulText a b 2 k:=by kernel_rfl
theorem mul3_text (N n:Nat) (α:Type) (a b:Int) (k:AOut→Option α):evFn real tab ((twT fsC spA).env real tab N (n+2)) N Tryz.f283 α [iN a,iN b,.fn 120 []] k=mulText a b 3 k:=by kernel_rfl
theorem mulS_ok:FspOk Tryz.prog 283 mulS:=tower_S fsC_ok spA_ok ⟨Tryz.func283,fun _ _=>by kernel_rfl⟩ (by intro α args k; unfold mulS; split<;>(try split)<;>simp only[cond_bind,fitK_bind,Option.bind_some,Option.bind_none]) fun args out hs h=>by
 unfold mulS at h
 split at h
 ·rename_i a b g
  split at h
  ·rename_i how hg
   rw[←mul_fin] at h
   rcases how_cases hg with hf
     |⟨rfl,rfl⟩
     |⟨rfl,rfl⟩
     |⟨rfl,rfl⟩
     |⟨rfl,rfl⟩
   ·cases hf
   ·exact⟨8,2,(mul0_text 8 0 AOut a b some).trans h⟩
   ·exact⟨8,2,(mul1_text 8 0 AOut a b some).trans h⟩
   ·exact⟨8,2,(mul2_text 8 0 AOut a b some).trans h⟩
   ·exact⟨8,2,(mul3_text 8 0 AOut a b some).trans h⟩
  ·cases h
 ·cases h
structure Exe (n D:Nat) (w w':World):Prop where
 os:w'.os=w.os
 tape:w'.tape=w.tape
 output:w'.output=w.output
 size:w.heap.size≤w'.heap.size
 block:∀k,k<n→k≠D→k≠D+1→w'.heap[k]?=w.heap[k]?
theorem Exe.of {n D:Nat} {w w':World} (h:Below n w w'):Exe n D w w':=⟨h.os,h.tape,h.output,h.size,fun k hk _ _=>h.block k hk⟩
theorem Exe.trans {n D:Nat} {a b c:World} (h:Exe n D a b) (k:Exe n D b c):Exe n D a c:=
 ⟨k.os.trans h.os,k.tape.trans h.tape,k.output.trans h.output,Nat.le_trans h.size k.size,fun i hi hd he=>(k.block i hi hd he).trans (h.block i hi hd he)⟩
theorem Exe.set {n D:Nat} {w:World} (v:Value):Exe n D w (w.setCell ⟨D,0,none⟩ v):=
 ⟨rfl,rfl,rfl,by simp[World.setCell],fun k _ hd _=>Below.heap_setCell _ _ _ _ hd⟩
theorem Exe.set1 {n D:Nat} {w:World} (v:Value):Exe n D w (w.setCell ⟨D+1,0,none⟩ v):=
 ⟨rfl,rfl,rfl,by simp[World.setCell],fun k _ _ hd=>Below.heap_setCell _ _ _ _ hd⟩
theorem Exe.drew {n D:Nat} {w w':World} (h:Exe n D w w'):Exe n D w { w' with drawn:=w'.drawn+1 }:=⟨h.os,h.tape,h.output,h.size,h.block⟩
theorem two_kept {w w1:World} {c1 c2:Array Value} {t1 t2:TypeId} (h1:w1.heap[w.heap.size]?=((w.alloc (.cells c1 t1)).alloc (.cells c2 t2)).heap[w.heap.size]?) (h2:w1.heap[w.heap.size+1]?=((w.alloc (.cells c1 t1)).alloc (.cells c2 t2)).heap[w.heap.size+1]?) :
  (∀i,w1.cell? ⟨w.heap.size,i,none⟩=c1[i]?)∧(∀i,w1.cell? ⟨w.heap.size+1,i,none⟩=c2[i]?)∧(∀i,w1.frozen? ⟨w.heap.size,i,none⟩=false)∧(∀i,w1.frozen? ⟨w.heap.size+1,i,none⟩=false):=by
 refine⟨fun i=>?_,fun i=>?_,fun i=>?_,fun i=>?_⟩
 ·rw[World.cell?_of_block (w':=w1) (a:=⟨w.heap.size,i,none⟩) h1]; simp[go_sem]
 ·rw[World.cell?_of_block (w':=w1) (a:=⟨w.heap.size+1,i,none⟩) h2]; simp[go_sem]
 ·rw[World.frozen?_of_block (w':=w1) (a:=⟨w.heap.size,i,none⟩) h1]; simp[go_sem]
 ·rw[World.frozen?_of_block (w':=w1) (a:=⟨w.heap.size+1,i,none⟩) h2]; simp[go_sem]
theorem cellSetNe {w:World} {a b:Addr} (v:Value) (h:a≠b):(w.setCell a v).cell? b=w.cell? b:=World.cell?_setCell_other w a b v h
def fxPanic (e:Int):List PanicEntry:=[{ v:=.iface 191 (.agg #[.int .i64 e]),recovered:=false }]
theorem fxassert_yes (c:Int) (w:World):(Instr.typeAssert (.iface 191 (.agg #[.int .i64 c])) 20 191 true).run Tryz.prog w=.ok (.tuple #[.agg #[.int .i64 c],.bool true]) w:=by kernel_rfl
theorem fxassert_nil (w:World):(Instr.typeAssert .nilIface 20 191 true).run Tryz.prog w=.ok (.tuple #[.agg #[.int .i64 0],.bool false]) w:=by kernel_rfl
theorem fitried1_panic (b:Nat) (x y c:Int) (w:World) (hp:w.cell? ⟨b,0,none⟩=some (.int .i64 x)) (hq:w.cell? ⟨b+1,0,none⟩=some (.int .i64 y)) (fp:w.frozen? ⟨b,0,none⟩=false) (fq:w.frozen? ⟨b+1,0,none⟩=false) (hqb:b+1<w.heap.size) :
  CallsD Tryz.prog 116 #[.pointer (some ⟨b,0,none⟩),.pointer (some ⟨b+1,0,none⟩)] (.panicking (fxPanic c)) w fun e u' w'=>
   e=.returned (.tuple #[])∧u'=.panicking [{ v:=.iface 191 (.agg #[.int .i64 c]),recovered:=true }]∧w'.cell? ⟨b,0,none⟩=some (.int .i64 0)∧w'.cell? ⟨b+1,0,none⟩=some (.int .i64 c)∧Exe w.heap.size b w w':=by
 refine callsD_of_wpS Tryz.func116 rfl fun c₀ cs hu=>?_
 apply wpS_seq
 apply wpS_region
 simp[wpOpsS,go_sem,recoverD,hu,fxPanic,Tryz.ntmps116,Exit.thenS,Array.replicate,List.replicate]
 refine wpS_of_wp ?_
 clear hu
 have hta:=fun w=>fxassert_yes c w
 have ha:∀o,Below w.heap.size w (w.alloc o):=fun o=>(Below.refl _ _).alloc (Nat.le_refl _) o
 have hp':∀o,(w.alloc o).cell? ⟨b,0,none⟩=some (.int .i64 x):=fun o=>((ha o).cell (p:=⟨b,0,none⟩) (by simp; omega)).trans hp
 have hq':∀o,(w.alloc o).cell? ⟨b+1,0,none⟩=some (.int .i64 y):=fun o=>((ha o).cell (p:=⟨b+1,0,none⟩) (by simp; omega)).trans hq
 have fp':∀o,(w.alloc o).frozen? ⟨b,0,none⟩=false:=fun o=>((ha o).frozen (p:=⟨b,0,none⟩) (by simp; omega)).trans fp
 have fq':∀o,(w.alloc o).frozen? ⟨b+1,0,none⟩=false:=fun o=>((ha o).frozen (p:=⟨b+1,0,none⟩) (by simp; omega)).trans fq
 clear ha
 go_wp2
 go_region
 all_goals
  go_big_unhide
  simp[bodyPostS,results,Tryz.results116,go_sem]
  refine⟨cellSet _ (hp' _),cellSet (u:=.int .i64 y) _ ((cellSetNe _ (by simp)).trans (hq' _)),?_⟩
  exact (((Exe.of ((Below.refl w.heap.size w).alloc (Nat.le_refl _) _)).trans (.set _)).trans (.set1 _)).drew
theorem fitried1_idle (b:Nat) (w:World) :
  CallsD Tryz.prog 116 #[.pointer (some ⟨b,0,none⟩),.pointer (some ⟨b+1,0,none⟩)] .returning w fun e u' w'=>
   e=.returned (.tuple #[])∧u'=.returning∧Below w.heap.size w w':=by
 refine callsD_of_wpS Tryz.func116 rfl fun c₀ cs hu=>?_
 apply wpS_seq
 apply wpS_region
 simp[wpOpsS,go_sem,recoverD,hu,Tryz.ntmps116,Exit.thenS,Array.replicate,List.replicate]
 refine wpS_of_wp ?_
 have hta:=fun w=>fxassert_nil w
 go_wp2
 all_goals
  simp[bodyPostS,results,Tryz.results116,go_sem]
  exact⟨.returning,by cases c₀; simp_all,rfl,(Below.refl _ _).alloc (Nat.le_refl _) _⟩
set_option maxHeartbeats 1000000 in
theorem fitried_ok (K:FuncId) (caps:Array Value) (v:Int) (Q:World→Prop) (he:∀w,(callFunc K caps).run Tryz.prog w=.ok (.enter K caps) w) (w:World)
  (h:∀w1,Below w.heap.size w w1→w.heap.size+1<w1.heap.size→Calls Tryz.prog K caps w1 fun e w'=>e=.returned (.int .i64 v)∧w'.heap[w.heap.size]?=w1.heap[w.heap.size]?∧w'.heap[w.heap.size+1]?=w1.heap[w.heap.size+1]?∧w1.heap.size≤w'.heap.size∧Q w') :
  Calls Tryz.prog 65 #[.func (.func K) #[] caps] w fun e w'=>e=.returned (.tuple #[.int .i64 v,.int .i64 0])∧∃w2,Q w2∧Exe w2.heap.size w.heap.size w2 w':=by
 have hmf:∀(fn:Fn) (first cap:Array Value) (w:World),(Instr.makeFunc fn first cap).run Tryz.prog w=.ok (.func fn first cap) w:=fun _ _ _ _=>rfl
 have HH:=hidOf h
 have hcall:∀w,(callFunc K caps).run Tryz.prog w=.ok (.enter K caps) w:=he
 clear h he
 go_enter_defers Tryz.func65,Tryz.ntmps65
 go_wp2_with (go_at_fn K; refine (HH.out _ (((Below.refl _ _).alloc (Nat.le_refl _) _).alloc (by simp) _) (by simp)).mono ?_; rintro e w1 ⟨rfl,hb1,hb2,hz1,hq⟩; obtain⟨hc1,hc2,hf1,hf2⟩:=two_kept hb1 hb2; have hz:w.heap.size+1<w1.heap.size:=(by simp at hz1; omega); have hd1:=hc1 0; have hd2:=hc2 0)
 refine leaves_cons (f:=116) (args:=#[.pointer (some ⟨w.heap.size,0,none⟩),.pointer (some ⟨w.heap.size+1,0,none⟩)]) (by simp) (by simp[go_sem]) ?_
 have hs:((w1.setCell ⟨w.heap.size,0,none⟩ (.int .i64 v)).setCell ⟨w.heap.size+1,0,none⟩ (.int .i64 0)).heap.size=w1.heap.size:=by simp[World.setCell]
 refine (fitried1_idle w.heap.size _).mono ?_
 rintro e u' w2 ⟨rfl,rfl,hb2⟩
 rw[hs] at hb2
 have g1:w2.cell? ⟨w.heap.size,0,none⟩=some (.int .i64 v):=by
  rw[hb2.cell (p:=⟨w.heap.size,0,none⟩) (by show w.heap.size<_; omega),cellSetNe _ (by simp)]
  exact cellSet _ hd1
 have g2:w2.cell? ⟨w.heap.size+1,0,none⟩=some (.int .i64 0):=by
  rw[hb2.cell (p:=⟨w.heap.size+1,0,none⟩) hz]
  exact cellSet (u:=.int .i64 0) _ ((cellSetNe _ (by simp)).trans hd2)
 clear HH hcall hmf hc1 hc2 hf1 hf2 hd1 hd2
 simp[Leaves,settle,results,Tryz.results65,go_sem,g1,g2]
 exact⟨w1,hq,((Exe.set _).trans (.set1 _)).trans (Exe.of hb2)⟩
set_option maxHeartbeats 1000000 in
theorem fitried_err (K:FuncId) (caps:Array Value) (c:Int) (Q:World→Prop) (he:∀w,(callFunc K caps).run Tryz.prog w=.ok (.enter K caps) w) (w:World)
  (h:∀w1,Below w.heap.size w w1→w.heap.size+1<w1.heap.size→Calls Tryz.prog K caps w1 fun e w'=>e=.panicked (fxPanic c)∧w'.heap[w.heap.size]?=w1.heap[w.heap.size]?∧w'.heap[w.heap.size+1]?=w1.heap[w.heap.size+1]?∧w1.heap.size≤w'.heap.size∧Q w') :
  Calls Tryz.prog 65 #[.func (.func K) #[] caps] w fun e w'=>e=.returned (.tuple #[.int .i64 0,.int .i64 c])∧∃w2,Q w2∧Exe w2.heap.size w.heap.size w2 w':=by
 have hmf:∀(fn:Fn) (first cap:Array Value) (w:World),(Instr.makeFunc fn first cap).run Tryz.prog w=.ok (.func fn first cap) w:=fun _ _ _ _=>rfl
 have HH:=hidOf h
 have hcall:∀w,(callFunc K caps).run Tryz.prog w=.ok (.enter K caps) w:=he
 clear h he
 go_enter_defers Tryz.func65,Tryz.ntmps65
 go_wp2_with (go_at_fn K; refine (HH.out _ (((Below.refl _ _).alloc (Nat.le_refl _) _).alloc (by simp) _) (by simp)).mono ?_; rintro e w1 ⟨rfl,hb1,hb2,hz1,hq⟩; obtain⟨hc1,hc2,hf1,hf2⟩:=two_kept hb1 hb2; have hz:w.heap.size+1<w1.heap.size:=(by simp at hz1; omega))
 refine leaves_cons (f:=116) (args:=#[.pointer (some ⟨w.heap.size,0,none⟩),.pointer (some ⟨w.heap.size+1,0,none⟩)]) (by simp) (by simp[go_sem]) ?_
 refine (fitried1_panic w.heap.size 0 0 c _ (hc1 0) (hc2 0) (hf1 0) (hf2 0) hz).mono ?_
 rintro e u' w2 ⟨rfl,rfl,g1,g2,hb2⟩
 clear HH hcall hmf hc1 hc2 hf1 hf2
 simp[Leaves,settle,results,Tryz.results65,go_sem,g1,g2]
 exact⟨w1,hq,hb2⟩
theorem le_exe {K K2:Nat→Prop} {h g} {w w':World} {D:Nat} (s:St K2 h g w) (hM:∀b,g.M b→b≠D∧b≠D+1) (hK:∀b,K b→(b≠D∧b≠D+1)∧K2 b) (e:Exe w.heap.size D w w'):Le K h g w h g w' where
 len:=Nat.le_refl _
 here:=fun _ h=>h
 m:=fun _ h=>h
 new:=fun _ h=>.inl h
 mw:=fun b hb=>e.block b (s.low b hb) (hM b hb).1 (hM b hb).2
 k:=fun b hb=>e.block b (s.klow b (hK b hb).2) (hK b hb).1.1 (hK b hb).1.2
 box:=fun _ wr cs' _ h=>⟨wr,cs',h,rfl,rfl⟩
 row:=fun _ wr _ _ xs' _ h=>⟨wr,xs',h,fun _=>rfl,rfl⟩
 lp:=fun _ st pend _ _ _ _ _ h=>⟨st,pend,h,rfl⟩
 lockb:=fun _ _ h=>h
 lockr:=fun _ _ _ _ h=>h
 os:=e.os
 tape:=e.tape
 output:=e.output
 size:=e.size
theorem st_exe {K K2:Nat→Prop} {h g} {w w':World} {D:Nat} (s:St K2 h g w) (hD:K2 D∧K2 (D+1)) (hM:∀b,g.M b→b≠D∧b≠D+1) (hK:∀b,K b→(b≠D∧b≠D+1)∧K2 b) (e:Exe w.heap.size D w w'):St K h g w' where
 blk:=fun i b hb=>(s.blk i b hb).mono (le_exe s hM hK e) rfl fun n hd hn=>by
  obtain⟨h1,h2,h3⟩:=s.sep i n ⟨b,hb,hd⟩ hn
  exact e.block n h3 (fun e'=>h1 (by rw[e']; exact hD.1)) fun e'=>h1 (by rw[e']; exact hD.2)
 inj:=s.inj
 sep:=fun i n ai hn=>by
  obtain⟨h1,h2,h3⟩:=s.sep i n ai hn
  exact⟨fun hk=>h1 (hK n hk).2,h2,Nat.lt_of_lt_of_le h3 e.size⟩
 low:=fun b hb=>Nat.lt_of_lt_of_le (s.low b hb) e.size
 klow:=fun b hb=>Nat.lt_of_lt_of_le (s.klow b (hK b hb).2) e.size
def tried2S (mis:TypeId) (fit:AVal→Bool) (zero:AVal) (cv:Cv):Cv:=fun _ v args h k=>
 match v,args with
 |.fn _ [],[.fn f caps]=>cv _ (.fn f caps) [] h fun x u h1=>
  match x with
  |.normal=>if fit u=true then k .normal (.tup [u,.int .i64 0]) h1 else none
  |.pan (.ifc t (.agg [.int .i64 e]))=>if t=mis then k .normal (.tup [zero,.int .i64 e]) h1 else none
  |_=>none
 |_,_=>none
structure Tried2Ok (P:Program) (f:FuncId) (mis:TypeId) (fit:AVal→Bool) (zf:AVal→Value) (zero:AVal) (zv:Value):Prop where
 shape:∀h g w u z,fit u=true→Rep h g w u z→z=zf u
 rep:∀h g w u,fit u=true→Rep h g w u (zf u)
 repz:∀h g w,Rep h g w zero zv
 enter:∀args w,(callFunc f args).run P w=.ok (.enter f args) w
 ok:∀(K:FuncId) (caps:Array Value) (u:AVal) (Q:World→Prop),fit u=true→(∀w,(callFunc K caps).run P w=.ok (.enter K caps) w)→∀(w:World),
  (∀w1,Below w.heap.size w w1→w.heap.size+1<w1.heap.size→Calls P K caps w1 fun e w'=>e=.returned (zf u)∧w'.heap[w.heap.size]?=w1.heap[w.heap.size]?∧w'.heap[w.heap.size+1]?=w1.heap[w.heap.size+1]?∧w1.heap.size≤w'.heap.size∧Q w') →
  Calls P f #[.func (.func K) #[] caps] w fun e w'=>e=.returned (.tuple #[zf u,.int .i64 0])∧∃w2,Q w2∧Exe w2.heap.size w.heap.size w2 w'
 err:∀(K:FuncId) (caps:Array Value) (c:Int) (Q:World→Prop),(∀w,(callFunc K caps).run P w=.ok (.enter K caps) w)→∀(w:World),
  (∀w1,Below w.heap.size w w1→w.heap.size+1<w1.heap.size→Calls P K caps w1 fun e w'=>e=.panicked [{ v:=.iface mis (.agg #[.int .i64 c]),recovered:=false }]∧w'.heap[w.heap.size]?=w1.heap[w.heap.size]?∧w'.heap[w.heap.size+1]?=w1.heap[w.heap.size+1]?∧w1.heap.size≤w'.heap.size∧Q w') →
  Calls P f #[.func (.func K) #[] caps] w fun e w'=>e=.returned (.tuple #[zv,.int .i64 c])∧∃w2,Q w2∧Exe w2.heap.size w.heap.size w2 w'
theorem tried2_at {P:Program} {f:FuncId} {mis:TypeId} {fit:AVal→Bool} {zf:AVal→Value} {zero:AVal} {zv:Value} (ht:Tried2Ok P f mis fit zf zero zv) (cv:Cv) (hcv:CvOk P cv) (caps0:List AVal):CvAt P (tried2S mis fit zero cv) (.fn f caps0) where
 nat:=fun α args h k=>by
  unfold tried2S
  split
  ·rename_i f' fk caps heq
   refine (hcv.nat _ (.fn fk caps) [] h _).trans (Eq.trans ?_ (congrArg (fun z:Option (AExit × AVal × List ABlk)=>z.bind fun p=>k p.1 p.2.1 p.2.2) (hcv.nat _ (.fn fk caps) [] h _).symm))
   cases cv _ (.fn fk caps) [] h tripE with
   |none=>rfl
   |some p=>
    obtain⟨x,u,h1⟩:=p
    simp only[Option.bind_some]
    split
    ·split<;>rfl
    ·split<;>rfl
    ·rfl
  ·rfl
 ok:=fun args h x u h1 hk K g w fv cargs s hfv hl hr=>by
  unfold tried2S at hk
  split at hk
  ·rename_i f' fk caps heq
   cases heq
   rw[hcv.nat] at hk
   obtain⟨carr,rfl,hcl⟩:=rep_fn hfv
   have hc0:carr=#[]:=Array.eq_empty_of_size_eq_zero hcl.symm
   subst hc0
   obtain⟨l⟩:=cargs
   match l,hl with
   | [z],_=>
     have hz:=hr 0 _ z rfl rfl
     obtain⟨karr,rfl,hkl⟩:=rep_fn hz
     -- the call below
     have below:∀x0 u0,cv _ (.fn fk caps) [] h tripE=some (x0,u0,h1)→∀w1,Below w.heap.size w w1→w.heap.size+1<w1.heap.size →
       (∀w,(callFunc fk karr).run P w=.ok (.enter fk karr) w)∧Calls P fk karr w1 (CvPost (fun b=>K b∨b=w.heap.size∨b=w.heap.size+1) h g w1 h1 x0 u0):=fun x0 u0 hc w1 hb hlt=>by
      have s1:=s.below hb g.M (fun _ h=>h) (fun _ h=>.inl h) fun b hb'=>Nat.lt_of_lt_of_le (s.low b hb') hb.size
      have l1:=le_below s hb g.M (fun _ h=>h) (fun _ h=>.inl h)
      have s2:St (fun b=>K b∨b=w.heap.size∨b=w.heap.size+1) h g w1:={
       blk:=s1.blk
       inj:=s1.inj
       sep:=fun i b ha hn=>by
        obtain⟨a1,a2,a3⟩:=s1.sep i b ha hn
        obtain⟨_,_,a4⟩:=s.sep i b ha hn
        exact⟨fun hk=>hk.elim a1 fun e=>by omega,a2,a3⟩
       low:=s1.low
       klow:=fun b hb'=>hb'.elim (s1.klow b) fun e=>by omega }
      rcases hcv.ok (.fn fk caps) [] h x0 u0 h1 hc _ g w1 (.func (.func fk) #[] karr) #[] s2 (hz.mono l1) rfl (fun j c z hc=>by simp at hc) with ⟨f2,c2,he,hen,hcall⟩|⟨_,_,_,_,_,he,_⟩|⟨_,_,_,_,⟨z,hz,_⟩,_⟩
      ·cases he
       simp only[Array.empty_append] at hen hcall
       exact⟨hen,hcall⟩
      ·cases he
      ·simp at hz
     have hen:∀x0 u0,cv _ (.fn fk caps) [] h tripE=some (x0,u0,h1)→∀w,(callFunc fk karr).run P w=.ok (.enter fk karr) w:=fun x0 u0 hc=>
      (below x0 u0 hc ((w.alloc (.cells #[] 0)).alloc (.cells #[] 0)) (((Below.refl _ _).alloc (Nat.le_refl _) _).alloc (by simp) _) (by simp)).1
     let Q:World→Prop:=fun w2=>∃g',St (fun b=>K b∨b=w.heap.size∨b=w.heap.size+1) h1 g' w2∧Le K h g w h1 g' w2∧∀b,g'.M b→b≠w.heap.size∧b≠w.heap.size+1
     have mkQ:∀w1 w2 g',Below w.heap.size w w1→St (fun b=>K b∨b=w.heap.size∨b=w.heap.size+1) h1 g' w2→Le (fun b=>K b∨b=w.heap.size∨b=w.heap.size+1) h g w1 h1 g' w2→Q w2:=fun w1 w2 g' hb a1 a2=>
      ⟨g',a1,(le_below s hb g.M (fun _ h=>h) (fun _ h=>.inl h)).trans (a2.less fun b hb=>.inl hb),fun b hb'=>(a2.new b hb').elim (fun h=>by have:=s.low b h; omega) fun h=>⟨fun e=>h (.inr (.inl e)),fun e=>h (.inr (.inr e))⟩⟩
     have fin:∀(n:Int) (u:AVal) (z:Value) w2 w',(∀h g w,Rep h g w u z)→Q w2→Exe w2.heap.size w.heap.size w2 w'→CvPost K h g w h1 .normal (.tup [u,.int .i64 n]) (.returned (.tuple #[z,.int .i64 n])) w':=fun n u z w2 w' hz ⟨g',a1,a2,a3⟩ e=>by
      have hK:∀b,K b→(b≠w.heap.size∧b≠w.heap.size+1)∧(K b∨b=w.heap.size∨b=w.heap.size+1):=fun b hb=>⟨by have:=s.klow b hb; omega,.inl hb⟩
      refine⟨g',st_exe a1 ⟨.inr (.inl rfl),.inr (.inr rfl)⟩ a3 hK e,a2.trans (le_exe a1 a3 hK e),_,rfl,.tup _ _ rfl fun j c x hc hx=>?_⟩
      match j with
      |0=>cases hc; cases hx; exact hz _ _ _
      |1=>cases hc; cases hx; exact .int _ _
      |j+2=>cases hc
     refine .inl ⟨f,#[],rfl,fun w=>ht.enter _ w,?_⟩
     show Calls P f #[.func (.func fk) #[] karr] w _
     cases hc:cv _ (.fn fk caps) [] h tripE with
     |none=>rw[hc] at hk; cases hk
     |some p=>
      obtain⟨x0,u0,h0⟩:=p
      rw[hc] at hk
      simp only[Option.bind_some] at hk
      split at hk
      ·split at hk
       ·rename_i hfit
        cases hk
        refine (ht.ok fk karr u0 Q hfit (hen _ _ hc) w fun w1 hb hlt=>((below _ _ hc w1 hb hlt).2).mono ?_).mono ?_
        ·rintro e w' ⟨g',a1,a2,y,rfl,hy⟩
         have:=ht.shape _ _ _ _ _ hfit hy
         subst this
         exact⟨rfl,a2.k _ (.inr (.inl rfl)),a2.k _ (.inr (.inr rfl)),a2.size,mkQ w1 w' g' hb a1 a2⟩
        ·rintro e w' ⟨rfl,w2,hq,hex⟩
         exact fin 0 u0 _ w2 w' (fun h g w=>ht.rep h g w u0 hfit) hq hex
       ·cases hk
      ·rename_i t ee
       split at hk
       ·rename_i ht'
        subst ht'
        cases hk
        refine (ht.err fk karr ee Q (hen _ _ hc) w fun w1 hb hlt=>((below _ _ hc w1 hb hlt).2).mono ?_).mono ?_
        ·rintro e w' ⟨g',a1,a2,y,rfl,hy⟩
         cases hy with
         |ifc _ _ y hy=>
          cases hy with
          |agg _ arr hl' hr'=>
           have hsz:arr.size=1:=hl'.symm
           have e0:=rep_int (hr' 0 _ arr[0] rfl (by simp))
           have:arr=#[.int .i64 ee]:=by
            obtain⟨l⟩:=arr
            match l,hsz with
            | [q],_=>simp at e0; rw[e0]
           subst this
           exact⟨rfl,a2.k _ (.inr (.inl rfl)),a2.k _ (.inr (.inr rfl)),a2.size,mkQ w1 w' g' hb a1 a2⟩
        ·rintro e w' ⟨rfl,w2,hq,hex⟩
         exact fin ee zero _ w2 w' ht.repz hq hex
       ·cases hk
      ·cases hk
  ·cases hk
def fitI:AVal→Bool
 |.int .i64 _=>true
 |_=>false
def valI:AVal→Value
 |.int k n=>.int k n
 |_=>.int .i64 0
theorem fitried_tried:Tried2Ok Tryz.prog 65 191 fitI valI (.int .i64 0) (.int .i64 0) where
 shape:=fun h g w u z hu hr=>by
  unfold fitI at hu
  split at hu
  ·exact rep_int hr
  ·cases hu
 rep:=fun h g w u hu=>by
  unfold fitI at hu
  split at hu
  ·exact .int _ _
  ·cases hu
 repz:=fun h g w=>.int _ _
 enter:=fun args w=>by kernel_rfl
 ok:=fun K caps u Q hu he w h=>by
  unfold fitI at hu
  split at hu
  ·exact fitried_ok K caps _ Q he w h
  ·cases hu
 err:=fun K caps c Q he w h=>fitried_err K caps c Q he w h
theorem fbtried1_panic (b:Nat) (x:Bool) (y c:Int) (w:World) (hp:w.cell? ⟨b,0,none⟩=some (.bool x)) (hq:w.cell? ⟨b+1,0,none⟩=some (.int .i64 y)) (fp:w.frozen? ⟨b,0,none⟩=false) (fq:w.frozen? ⟨b+1,0,none⟩=false) (hqb:b+1<w.heap.size) :
  CallsD Tryz.prog 293 #[.pointer (some ⟨b,0,none⟩),.pointer (some ⟨b+1,0,none⟩)] (.panicking (fxPanic c)) w fun e u' w'=>
   e=.returned (.tuple #[])∧u'=.panicking [{ v:=.iface 191 (.agg #[.int .i64 c]),recovered:=true }]∧w'.cell? ⟨b,0,none⟩=some (.bool false)∧w'.cell? ⟨b+1,0,none⟩=some (.int .i64 c)∧Exe w.heap.size b w w':=by
 refine callsD_of_wpS Tryz.func293 rfl fun c₀ cs hu=>?_
 apply wpS_seq
 apply wpS_region
 simp[wpOpsS,go_sem,recoverD,hu,fxPanic,Tryz.ntmps293,Exit.thenS,Array.replicate,List.replicate]
 refine wpS_of_wp ?_
 clear hu
 have hta:=fun w=>fxassert_yes c w
 have ha:∀o,Below w.heap.size w (w.alloc o):=fun o=>(Below.refl _ _).alloc (Nat.le_refl _) o
 have hp':∀o,(w.alloc o).cell? ⟨b,0,none⟩=some (.bool x):=fun o=>((ha o).cell (p:=⟨b,0,none⟩) (by simp; omega)).trans hp
 have hq':∀o,(w.alloc o).cell? ⟨b+1,0,none⟩=some (.int .i64 y):=fun o=>((ha o).cell (p:=⟨b+1,0,none⟩) (by simp; omega)).trans hq
 have fp':∀o,(w.alloc o).frozen? ⟨b,0,none⟩=false:=fun o=>((ha o).frozen (p:=⟨b,0,none⟩) (by simp; omega)).trans fp
 have fq':∀o,(w.alloc o).frozen? ⟨b+1,0,none⟩=false:=fun o=>((ha o).frozen (p:=⟨b+1,0,none⟩) (by simp; omega)).trans fq
 clear ha
 go_wp2
 go_region
 all_goals
  go_big_unhide
  simp[bodyPostS,results,Tryz.results293,go_sem]
  refine⟨cellSet _ (hp' _),cellSet (u:=.int .i64 y) _ ((cellSetNe _ (by simp)).trans (hq' _)),?_⟩
  exact (((Exe.of ((Below.refl w.heap.size w).alloc (Nat.le_refl _) _)).trans (.set _)).trans (.set1 _)).drew
theorem fbtried1_idle (b:Nat) (w:World) :
  CallsD Tryz.prog 293 #[.pointer (some ⟨b,0,none⟩),.pointer (some ⟨b+1,0,none⟩)] .returning w fun e u' w'=>
   e=.returned (.tuple #[])∧u'=.returning∧Below w.heap.size w w':=by
 refine callsD_of_wpS Tryz.func293 rfl fun c₀ cs hu=>?_
 apply wpS_seq
 apply wpS_region
 simp[wpOpsS,go_sem,recoverD,hu,Tryz.ntmps293,Exit.thenS,Array.replicate,List.replicate]
 refine wpS_of_wp ?_
 have hta:=fun w=>fxassert_nil w
 go_wp2
 all_goals
  simp[bodyPostS,results,Tryz.results293,go_sem]
  exact⟨.returning,by cases c₀; simp_all,rfl,(Below.refl _ _).alloc (Nat.le_refl _) _⟩
set_option maxHeartbeats 1000000 in
theorem fbtried_ok (K:FuncId) (caps:Array Value) (v:Bool) (Q:World→Prop) (he:∀w,(callFunc K caps).run Tryz.prog w=.ok (.enter K caps) w) (w:World)
  (h:∀w1,Below w.heap.size w w1→w.heap.size+1<w1.heap.size→Calls Tryz.prog K caps w1 fun e w'=>e=.returned (.bool v)∧w'.heap[w.heap.size]?=w1.heap[w.heap.size]?∧w'.heap[w.heap.size+1]?=w1.heap[w.heap.size+1]?∧w1.heap.size≤w'.heap.size∧Q w') :
  Calls Tryz.prog 272 #[.func (.func K) #[] caps] w fun e w'=>e=.returned (.tuple #[.bool v,.int .i64 0])∧∃w2,Q w2∧Exe w2.heap.size w.heap.size w2 w':=by
 have hmf:∀(fn:Fn) (first cap:Array Value) (w:World),(Instr.makeFunc fn first cap).run Tryz.prog w=.ok (.func fn first cap) w:=fun _ _ _ _=>rfl
 have HH:=hidOf h
 have hcall:∀w,(callFunc K caps).run Tryz.prog w=.ok (.enter K caps) w:=he
 clear h he
 go_enter_defers Tryz.func272,Tryz.ntmps272
 go_wp2_with (go_at_fn K; refine (HH.out _ (((Below.refl _ _).alloc (Nat.le_refl _) _).alloc (by simp) _) (by simp)).mono ?_; rintro e w1 ⟨rfl,hb1,hb2,hz1,hq⟩; obtain⟨hc1,hc2,hf1,hf2⟩:=two_kept hb1 hb2; have hz:w.heap.size+1<w1.heap.size:=(by simp at hz1; omega); have hd1:=hc1 0; have hd2:=hc2 0)
 refine leaves_cons (f:=293) (args:=#[.pointer (some ⟨w.heap.size,0,none⟩),.pointer (some ⟨w.heap.size+1,0,none⟩)]) (by simp) (by simp[go_sem]) ?_
 have hs:((w1.setCell ⟨w.heap.size,0,none⟩ (.bool v)).setCell ⟨w.heap.size+1,0,none⟩ (.int .i64 0)).heap.size=w1.heap.size:=by simp[World.setCell]
 refine (fbtried1_idle w.heap.size _).mono ?_
 rintro e u' w2 ⟨rfl,rfl,hb2⟩
 rw[hs] at hb2
 have g1:w2.cell? ⟨w.heap.size,0,none⟩=some (.bool v):=by
  rw[hb2.cell (p:=⟨w.heap.size,0,none⟩) (by show w.heap.size<_; omega),cellSetNe _ (by simp)]
  exact cellSet _ hd1
 have g2:w2.cell? ⟨w.heap.size+1,0,none⟩=some (.int .i64 0):=by
  rw[hb2.cell (p:=⟨w.heap.size+1,0,none⟩) hz]
  exact cellSet (u:=.int .i64 0) _ ((cellSetNe _ (by simp)).trans hd2)
 clear HH hcall hmf hc1 hc2 hf1 hf2 hd1 hd2
 simp[Leaves,settle,results,Tryz.results272,go_sem,g1,g2]
 exact⟨w1,hq,((Exe.set _).trans (.set1 _)).trans (Exe.of hb2)⟩
set_option maxHeartbeats 1000000 in
theorem fbtried_err (K:FuncId) (caps:Array Value) (c:Int) (Q:World→Prop) (he:∀w,(callFunc K caps).run Tryz.prog w=.ok (.enter K caps) w) (w:World)
  (h:∀w1,Below w.heap.size w w1→w.heap.size+1<w1.heap.size→Calls Tryz.prog K caps w1 fun e w'=>e=.panicked (fxPanic c)∧w'.heap[w.heap.size]?=w1.heap[w.heap.size]?∧w'.heap[w.heap.size+1]?=w1.heap[w.heap.size+1]?∧w1.heap.size≤w'.heap.size∧Q w') :
  Calls Tryz.prog 272 #[.func (.func K) #[] caps] w fun e w'=>e=.returned (.tuple #[.bool false,.int .i64 c])∧∃w2,Q w2∧Exe w2.heap.size w.heap.size w2 w':=by
 have hmf:∀(fn:Fn) (first cap:Array Value) (w:World),(Instr.makeFunc fn first cap).run Tryz.prog w=.ok (.func fn first cap) w:=fun _ _ _ _=>rfl
 have HH:=hidOf h
 have hcall:∀w,(callFunc K caps).run Tryz.prog w=.ok (.enter K caps) w:=he
 clear h he
 go_enter_defers Tryz.func272,Tryz.ntmps272
 go_wp2_with (go_at_fn K; refine (HH.out _ (((Below.refl _ _).alloc (Nat.le_refl _) _).alloc (by simp) _) (by simp)).mono ?_; rintro e w1 ⟨rfl,hb1,hb2,hz1,hq⟩; obtain⟨hc1,hc2,hf1,hf2⟩:=two_kept hb1 hb2; have hz:w.heap.size+1<w1.heap.size:=(by simp at hz1; omega))
 refine leaves_cons (f:=293) (args:=#[.pointer (some ⟨w.heap.size,0,none⟩),.pointer (some ⟨w.heap.size+1,0,none⟩)]) (by simp) (by simp[go_sem]) ?_
 refine (fbtried1_panic w.heap.size false 0 c _ (hc1 0) (hc2 0) (hf1 0) (hf2 0) hz).mono ?_
 rintro e u' w2 ⟨rfl,rfl,g1,g2,hb2⟩
 clear HH hcall hmf hc1 hc2 hf1 hf2
 simp[Leaves,settle,results,Tryz.results272,go_sem,g1,g2]
 exact⟨w1,hq,hb2⟩
def fitB0:AVal→Bool
 |.bool _=>true
 |_=>false
def valB0:AVal→Value
 |.bool b=>.bool b
 |_=>.bool false
theorem fbtried_tried:Tried2Ok Tryz.prog 272 191 fitB0 valB0 (.bool false) (.bool false) where
 shape:=fun h g w u z hu hr=>by
  unfold fitB0 at hu
  split at hu
  ·exact rep_bool hr
  ·cases hu
 rep:=fun h g w u hu=>by
  unfold fitB0 at hu
  split at hu
  ·exact .bool _
  ·cases hu
 repz:=fun h g w=>.bool _
 enter:=fun args w=>by kernel_rfl
 ok:=fun K caps u Q hu he w h=>by
  unfold fitB0 at hu
  split at hu
  ·exact fbtried_ok K caps _ Q he w h
  ·cases hu
 err:=fun K caps c Q he w h=>fbtried_err K caps c Q he w h
theorem Exe.setO {n D:Nat} {w:World} (o:Nat) (v:Value):Exe n D w (w.setCell ⟨D,o,none⟩ v):=
 ⟨rfl,rfl,rfl,by simp[World.setCell],fun k _ hd _=>Below.heap_setCell _ _ _ _ hd⟩
theorem fstried1_panic (b:Nat) (x x2 y c:Int) (w:World) (hp:w.cell? ⟨b,0,none⟩=some (.int .i64 x)) (hp2:w.cell? ⟨b,1,none⟩=some (.int .i64 x2)) (hq:w.cell? ⟨b+1,0,none⟩=some (.int .i64 y)) (fp:w.frozen? ⟨b,0,none⟩=false) (fp2:w.frozen? ⟨b,1,none⟩=false) (fq:w.frozen? ⟨b+1,0,none⟩=false) (hqb:b+1<w.heap.size) :
  CallsD Tryz.prog 294 #[.pointer (some ⟨b,0,none⟩),.pointer (some ⟨b+1,0,none⟩)] (.panicking (fxPanic c)) w fun e u' w'=>
   e=.returned (.tuple #[])∧u'=.panicking [{ v:=.iface 191 (.agg #[.int .i64 c]),recovered:=true }]∧w'.cell? ⟨b,0,none⟩=some (.int .i64 0)∧w'.cell? ⟨b,1,none⟩=some (.int .i64 0)∧w'.cell? ⟨b+1,0,none⟩=some (.int .i64 c)∧Exe w.heap.size b w w':=by
 refine callsD_of_wpS Tryz.func294 rfl fun c₀ cs hu=>?_
 apply wpS_seq
 apply wpS_region
 simp[wpOpsS,go_sem,recoverD,hu,fxPanic,Tryz.ntmps294,Exit.thenS,Array.replicate,List.replicate]
 refine wpS_of_wp ?_
 clear hu
 have hta:=fun w=>fxassert_yes c w
 have ha:∀o o',Below w.heap.size w ((w.alloc o).alloc o'):=fun o o'=>((Below.refl _ _).alloc (Nat.le_refl _) o).alloc (by simp) o'
 have hp':∀o o',((w.alloc o).alloc o').cell? ⟨b,0,none⟩=some (.int .i64 x):=fun o o'=>((ha o o').cell (p:=⟨b,0,none⟩) (by simp; omega)).trans hp
 have hp2':∀o o',((w.alloc o).alloc o').cell? ⟨b,1,none⟩=some (.int .i64 x2):=fun o o'=>((ha o o').cell (p:=⟨b,1,none⟩) (by simp; omega)).trans hp2
 have hq':∀o o',((w.alloc o).alloc o').cell? ⟨b+1,0,none⟩=some (.int .i64 y):=fun o o'=>((ha o o').cell (p:=⟨b+1,0,none⟩) (by simp; omega)).trans hq
 have fp':∀o o',((w.alloc o).alloc o').frozen? ⟨b,0,none⟩=false:=fun o o'=>((ha o o').frozen (p:=⟨b,0,none⟩) (by simp; omega)).trans fp
 have fp2':∀o o',((w.alloc o).alloc o').frozen? ⟨b,1,none⟩=false:=fun o o'=>((ha o o').frozen (p:=⟨b,1,none⟩) (by simp; omega)).trans fp2
 have fq':∀o o',((w.alloc o).alloc o').frozen? ⟨b+1,0,none⟩=false:=fun o o'=>((ha o o').frozen (p:=⟨b+1,0,none⟩) (by simp; omega)).trans fq
 clear ha
 go_wp2
 go_region
 all_goals
  go_big_unhide
  simp[bodyPostS,results,Tryz.results294,go_sem]
  refine⟨cellSet _ (hp' _ _),cellSet (u:=.int .i64 x2) _ ((cellSetNe _ (by simp)).trans (hp2' _ _)),cellSet (u:=.int .i64 y) _ ((cellSetNe _ (by simp)).trans ((cellSetNe _ (by simp)).trans (hq' _ _))),?_⟩
  exact ((((Exe.of (((Below.refl w.heap.size w).alloc (Nat.le_refl _) _).alloc (by simp) _)).trans (.setO 0 _)).trans (.setO 1 _)).trans (.set1 _)).drew
theorem fstried1_idle (b:Nat) (w:World) :
  CallsD Tryz.prog 294 #[.pointer (some ⟨b,0,none⟩),.pointer (some ⟨b+1,0,none⟩)] .returning w fun e u' w'=>
   e=.returned (.tuple #[])∧u'=.returning∧Below w.heap.size w w':=by
 refine callsD_of_wpS Tryz.func294 rfl fun c₀ cs hu=>?_
 apply wpS_seq
 apply wpS_region
 simp[wpOpsS,go_sem,recoverD,hu,Tryz.ntmps294,Exit.thenS,Array.replicate,List.replicate]
 refine wpS_of_wp ?_
 have hta:=fun w=>fxassert_nil w
 go_wp2
 all_goals
  simp[bodyPostS,results,Tryz.results294,go_sem]
  exact⟨.returning,by cases c₀; simp_all,rfl,(Below.refl _ _).alloc (Nat.le_refl _) _⟩
set_option maxHeartbeats 1000000 in
theorem fstried_ok (K:FuncId) (caps:Array Value) (v v2:Int) (Q:World→Prop) (he:∀w,(callFunc K caps).run Tryz.prog w=.ok (.enter K caps) w) (w:World)
  (h:∀w1,Below w.heap.size w w1→w.heap.size+1<w1.heap.size→Calls Tryz.prog K caps w1 fun e w'=>e=.returned (.agg #[.int .i64 v,.int .i64 v2])∧w'.heap[w.heap.size]?=w1.heap[w.heap.size]?∧w'.heap[w.heap.size+1]?=w1.heap[w.heap.size+1]?∧w1.heap.size≤w'.heap.size∧Q w') :
  Calls Tryz.prog 274 #[.func (.func K) #[] caps] w fun e w'=>e=.returned (.tuple #[.agg #[.int .i64 v,.int .i64 v2],.int .i64 0])∧∃w2,Q w2∧Exe w2.heap.size w.heap.size w2 w':=by
 have hmf:∀(fn:Fn) (first cap:Array Value) (w:World),(Instr.makeFunc fn first cap).run Tryz.prog w=.ok (.func fn first cap) w:=fun _ _ _ _=>rfl
 have HH:=hidOf h
 have hcall:∀w,(callFunc K caps).run Tryz.prog w=.ok (.enter K caps) w:=he
 clear h he
 go_enter_defers Tryz.func274,Tryz.ntmps274
 go_wp2_with (go_at_fn K; refine (HH.out _ (((Below.refl _ _).alloc (Nat.le_refl _) _).alloc (by simp) _) (by simp)).mono ?_; rintro e w1 ⟨rfl,hb1,hb2,hz1,hq⟩; obtain⟨hc1,hc2,hf1,hf2⟩:=two_kept hb1 hb2; have hz:w.heap.size+1<w1.heap.size:=(by simp at hz1; omega); have hd1:=hc1 0; have hd3:=hc1 1; have hd2:=hc2 0)
 refine leaves_cons (f:=294) (args:=#[.pointer (some ⟨w.heap.size,0,none⟩),.pointer (some ⟨w.heap.size+1,0,none⟩)]) (by simp) (by simp[go_sem]) ?_
 have hs:(((w1.setCell ⟨w.heap.size,0,none⟩ (.int .i64 v)).setCell ⟨w.heap.size,1,none⟩ (.int .i64 v2)).setCell ⟨w.heap.size+1,0,none⟩ (.int .i64 0)).heap.size=w1.heap.size:=by simp[World.setCell]
 refine (fstried1_idle w.heap.size _).mono ?_
 rintro e u' w2 ⟨rfl,rfl,hb2⟩
 rw[hs] at hb2
 have g1:w2.cell? ⟨w.heap.size,0,none⟩=some (.int .i64 v):=by
  rw[hb2.cell (p:=⟨w.heap.size,0,none⟩) (by show w.heap.size<_; omega),cellSetNe _ (by simp),cellSetNe _ (by simp)]
  exact cellSet _ hd1
 have g3:w2.cell? ⟨w.heap.size,1,none⟩=some (.int .i64 v2):=by
  rw[hb2.cell (p:=⟨w.heap.size,1,none⟩) (by show w.heap.size<_; omega),cellSetNe _ (by simp)]
  exact cellSet (u:=.int .i64 0) _ ((cellSetNe _ (by simp)).trans hd3)
 have g2:w2.cell? ⟨w.heap.size+1,0,none⟩=some (.int .i64 0):=by
  rw[hb2.cell (p:=⟨w.heap.size+1,0,none⟩) hz]
  exact cellSet (u:=.int .i64 0) _ ((cellSetNe _ (by simp)).trans ((cellSetNe _ (by simp)).trans hd2))
 clear HH hcall hmf hc1 hc2 hf1 hf2 hd1 hd2 hd3
 simp[Leaves,settle,results,Tryz.results274,go_sem,g1,g2,g3]
 exact⟨w1,hq,(((Exe.setO 0 _).trans (.setO 1 _)).trans (.set1 _)).trans (Exe.of hb2)⟩
set_option maxHeartbeats 1000000 in
theorem fstried_err (K:FuncId) (caps:Array Value) (c:Int) (Q:World→Prop) (he:∀w,(callFunc K caps).run Tryz.prog w=.ok (.enter K caps) w) (w:World)
  (h:∀w1,Below w.heap.size w w1→w.heap.size+1<w1.heap.size→Calls Tryz.prog K caps w1 fun e w'=>e=.panicked (fxPanic c)∧w'.heap[w.heap.size]?=w1.heap[w.heap.size]?∧w'.heap[w.heap.size+1]?=w1.heap[w.heap.size+1]?∧w1.heap.size≤w'.heap.size∧Q w') :
  Calls Tryz.prog 274 #[.func (.func K) #[] caps] w fun e w'=>e=.returned (.tuple #[.agg #[.int .i64 0,.int .i64 0],.int .i64 c])∧∃w2,Q w2∧Exe w2.heap.size w.heap.size w2 w':=by
 have hmf:∀(fn:Fn) (first cap:Array Value) (w:World),(Instr.makeFunc fn first cap).run Tryz.prog w=.ok (.func fn first cap) w:=fun _ _ _ _=>rfl
 have HH:=hidOf h
 have hcall:∀w,(callFunc K caps).run Tryz.prog w=.ok (.enter K caps) w:=he
 clear h he
 go_enter_defers Tryz.func274,Tryz.ntmps274
 go_wp2_with (go_at_fn K; refine (HH.out _ (((Below.refl _ _).alloc (Nat.le_refl _) _).alloc (by simp) _) (by simp)).mono ?_; rintro e w1 ⟨rfl,hb1,hb2,hz1,hq⟩; obtain⟨hc1,hc2,hf1,hf2⟩:=two_kept hb1 hb2; have hz:w.heap.size+1<w1.heap.size:=(by simp at hz1; omega))
 refine leaves_cons (f:=294) (args:=#[.pointer (some ⟨w.heap.size,0,none⟩),.pointer (some ⟨w.heap.size+1,0,none⟩)]) (by simp) (by simp[go_sem]) ?_
 refine (fstried1_panic w.heap.size 0 0 0 c _ (hc1 0) (hc1 1) (hc2 0) (hf1 0) (hf1 1) (hf2 0) hz).mono ?_
 rintro e u' w2 ⟨rfl,rfl,g1,g3,g2,hb2⟩
 clear HH hcall hmf hc1 hc2 hf1 hf2
 simp[Leaves,settle,results,Tryz.results274,go_sem,g1,g2,g3]
 exact⟨w1,hq,hb2⟩
def fitSp:AVal→Bool
 |.agg [.int .i64 _,.int .i64 _]=>true
 |_=>false
def valSp:AVal→Value
 |.agg [.int _ a,.int _ b]=>.agg #[.int .i64 a,.int .i64 b]
 |_=>.int .i64 0
theorem fstried_tried:Tried2Ok Tryz.prog 274 191 fitSp valSp (.agg [.int .i64 0,.int .i64 0]) (.agg #[.int .i64 0,.int .i64 0]) where
 shape:=fun h g w u z hu hr=>by
  unfold fitSp at hu
  split at hu
  ·cases hr with
   |agg _ arr hl hr=>
    obtain⟨l⟩:=arr
    match l,hl with
    | [p,q],_=>
      have e0:=rep_int (hr 0 _ p rfl rfl)
      have e1:=rep_int (hr 1 _ q rfl rfl)
      subst e0; subst e1
      rfl
  ·cases hu
 rep:=fun h g w u hu=>by
  unfold fitSp at hu
  split at hu
  ·refine .agg _ _ rfl fun j c x hc hx=>?_
   match j with
   |0=>cases hc; cases hx; exact .int _ _
   |1=>cases hc; cases hx; exact .int _ _
   |j+2=>cases hc
  ·cases hu
 repz:=fun h g w=>by
  refine .agg _ _ rfl fun j c x hc hx=>?_
  match j with
  |0=>cases hc; cases hx; exact .int _ _
  |1=>cases hc; cases hx; exact .int _ _
  |j+2=>cases hc
 enter:=fun args w=>by kernel_rfl
 ok:=fun K caps u Q hu he w h=>by
  unfold fitSp at hu
  split at hu
  ·exact fstried_ok K caps _ _ Q he w h
  ·cases hu
 err:=fun K caps c Q he w h=>fstried_err K caps c Q he w h
theorem frtried1_panic (b:Nat) (x:Value) (y c:Int) (w:World) (hp:w.cell? ⟨b,0,none⟩=some x) (hq:w.cell? ⟨b+1,0,none⟩=some (.int .i64 y)) (fp:w.frozen? ⟨b,0,none⟩=false) (fq:w.frozen? ⟨b+1,0,none⟩=false) (hqb:b+1<w.heap.size) :
  CallsD Tryz.prog 297 #[.pointer (some ⟨b,0,none⟩),.pointer (some ⟨b+1,0,none⟩)] (.panicking (fxPanic c)) w fun e u' w'=>
   e=.returned (.tuple #[])∧u'=.panicking [{ v:=.iface 191 (.agg #[.int .i64 c]),recovered:=true }]∧w'.cell? ⟨b,0,none⟩=some .nilFunc∧w'.cell? ⟨b+1,0,none⟩=some (.int .i64 c)∧Exe w.heap.size b w w':=by
 refine callsD_of_wpS Tryz.func297 rfl fun c₀ cs hu=>?_
 apply wpS_seq
 apply wpS_region
 simp[wpOpsS,go_sem,recoverD,hu,fxPanic,Tryz.ntmps297,Exit.thenS,Array.replicate,List.replicate]
 refine wpS_of_wp ?_
 clear hu
 have hta:=fun w=>fxassert_yes c w
 have hst:∀w' m,(store ⟨b,0,none⟩ Value.nilFunc m).run Tryz.prog w'=stored Tryz.prog w' ⟨b,0,none⟩ Value.nilFunc m:=fun w' m=>run_store Tryz.prog w' _ _ m rfl
 have ha:∀o,Below w.heap.size w (w.alloc o):=fun o=>(Below.refl _ _).alloc (Nat.le_refl _) o
 have hp':∀o,(w.alloc o).cell? ⟨b,0,none⟩=some x:=fun o=>((ha o).cell (p:=⟨b,0,none⟩) (by simp; omega)).trans hp
 have hq':∀o,(w.alloc o).cell? ⟨b+1,0,none⟩=some (.int .i64 y):=fun o=>((ha o).cell (p:=⟨b+1,0,none⟩) (by simp; omega)).trans hq
 have fp':∀o,(w.alloc o).frozen? ⟨b,0,none⟩=false:=fun o=>((ha o).frozen (p:=⟨b,0,none⟩) (by simp; omega)).trans fp
 have fq':∀o,(w.alloc o).frozen? ⟨b+1,0,none⟩=false:=fun o=>((ha o).frozen (p:=⟨b+1,0,none⟩) (by simp; omega)).trans fq
 clear ha
 go_wp2
 go_region
 all_goals
  go_big_unhide
  simp[bodyPostS,results,Tryz.results297,go_sem]
  refine⟨cellSet _ (hp' _),cellSet (u:=.int .i64 y) _ ((cellSetNe _ (by simp)).trans (hq' _)),?_⟩
  exact (((Exe.of ((Below.refl w.heap.size w).alloc (Nat.le_refl _) _)).trans (.set _)).trans (.set1 _)).drew
theorem frtried1_idle (b:Nat) (w:World) :
  CallsD Tryz.prog 297 #[.pointer (some ⟨b,0,none⟩),.pointer (some ⟨b+1,0,none⟩)] .returning w fun e u' w'=>
   e=.returned (.tuple #[])∧u'=.returning∧Below w.heap.size w w':=by
 refine callsD_of_wpS Tryz.func297 rfl fun c₀ cs hu=>?_
 apply wpS_seq
 apply wpS_region
 simp[wpOpsS,go_sem,recoverD,hu,Tryz.ntmps297,Exit.thenS,Array.replicate,List.replicate]
 refine wpS_of_wp ?_
 have hta:=fun w=>fxassert_nil w
 go_wp2
 all_goals
  simp[bodyPostS,results,Tryz.results297,go_sem]
  exact⟨.returning,by cases c₀; simp_all,rfl,(Below.refl _ _).alloc (Nat.le_refl _) _⟩
set_option maxHeartbeats 1000000 in
theorem frtried_ok (K:FuncId) (caps:Array Value) (v:FuncId) (Q:World→Prop) (he:∀w,(callFunc K caps).run Tryz.prog w=.ok (.enter K caps) w) (w:World)
  (h:∀w1,Below w.heap.size w w1→w.heap.size+1<w1.heap.size→Calls Tryz.prog K caps w1 fun e w'=>e=.returned (.func (.func v) #[] #[])∧w'.heap[w.heap.size]?=w1.heap[w.heap.size]?∧w'.heap[w.heap.size+1]?=w1.heap[w.heap.size+1]?∧w1.heap.size≤w'.heap.size∧Q w') :
  Calls Tryz.prog 280 #[.func (.func K) #[] caps] w fun e w'=>e=.returned (.tuple #[.func (.func v) #[] #[],.int .i64 0])∧∃w2,Q w2∧Exe w2.heap.size w.heap.size w2 w':=by
 have hmf:∀(fn:Fn) (first cap:Array Value) (w:World),(Instr.makeFunc fn first cap).run Tryz.prog w=.ok (.func fn first cap) w:=fun _ _ _ _=>rfl
 have hst:∀w' m,(store ⟨w.heap.size,0,none⟩ (Value.func (.func v) #[] #[]) m).run Tryz.prog w'=stored Tryz.prog w' ⟨w.heap.size,0,none⟩ (Value.func (.func v) #[] #[]) m:=fun w' m=>run_store Tryz.prog w' _ _ m rfl
 have HH:=hidOf h
 have hcall:∀w,(callFunc K caps).run Tryz.prog w=.ok (.enter K caps) w:=he
 clear h he
 go_enter_defers Tryz.func280,Tryz.ntmps280
 go_wp2_with (go_at_fn K; refine (HH.out _ (((Below.refl _ _).alloc (Nat.le_refl _) _).alloc (by simp) _) (by simp)).mono ?_; rintro e w1 ⟨rfl,hb1,hb2,hz1,hq⟩; obtain⟨hc1,hc2,hf1,hf2⟩:=two_kept hb1 hb2; have hz:w.heap.size+1<w1.heap.size:=(by simp at hz1; omega); have hd1:=hc1 0; have hd2:=hc2 0)
 refine leaves_cons (f:=297) (args:=#[.pointer (some ⟨w.heap.size,0,none⟩),.pointer (some ⟨w.heap.size+1,0,none⟩)]) (by simp) (by simp[go_sem]) ?_
 have hs:((w1.setCell ⟨w.heap.size,0,none⟩ (.func (.func v) #[] #[])).setCell ⟨w.heap.size+1,0,none⟩ (.int .i64 0)).heap.size=w1.heap.size:=by simp[World.setCell]
 refine (frtried1_idle w.heap.size _).mono ?_
 rintro e u' w2 ⟨rfl,rfl,hb2⟩
 rw[hs] at hb2
 have g1:w2.cell? ⟨w.heap.size,0,none⟩=some (.func (.func v) #[] #[]):=by
  rw[hb2.cell (p:=⟨w.heap.size,0,none⟩) (by show w.heap.size<_; omega),cellSetNe _ (by simp)]
  exact cellSet _ hd1
 have g2:w2.cell? ⟨w.heap.size+1,0,none⟩=some (.int .i64 0):=by
  rw[hb2.cell (p:=⟨w.heap.size+1,0,none⟩) hz]
  exact cellSet (u:=.int .i64 0) _ ((cellSetNe _ (by simp)).trans hd2)
 clear HH hcall hmf hc1 hc2 hf1 hf2 hd1 hd2
 simp[Leaves,settle,results,Tryz.results280,go_sem,g1,g2]
 exact⟨w1,hq,((Exe.set _).trans (.set1 _)).trans (Exe.of hb2)⟩
set_option maxHeartbeats 1000000 in
theorem frtried_err (K:FuncId) (caps:Array Value) (c:Int) (Q:World→Prop) (he:∀w,(callFunc K caps).run Tryz.prog w=.ok (.enter K caps) w) (w:World)
  (h:∀w1,Below w.heap.size w w1→w.heap.size+1<w1.heap.size→Calls Tryz.prog K caps w1 fun e w'=>e=.panicked (fxPanic c)∧w'.heap[w.heap.size]?=w1.heap[w.heap.size]?∧w'.heap[w.heap.size+1]?=w1.heap[w.heap.size+1]?∧w1.heap.size≤w'.heap.size∧Q w') :
  Calls Tryz.prog 280 #[.func (.func K) #[] caps] w fun e w'=>e=.returned (.tuple #[.nilFunc,.int .i64 c])∧∃w2,Q w2∧Exe w2.heap.size w.heap.size w2 w':=by
 have hmf:∀(fn:Fn) (first cap:Array Value) (w:World),(Instr.makeFunc fn first cap).run Tryz.prog w=.ok (.func fn first cap) w:=fun _ _ _ _=>rfl
 have HH:=hidOf h
 have hcall:∀w,(callFunc K caps).run Tryz.prog w=.ok (.enter K caps) w:=he
 clear h he
 go_enter_defers Tryz.func280,Tryz.ntmps280
 go_wp2_with (go_at_fn K; refine (HH.out _ (((Below.refl _ _).alloc (Nat.le_refl _) _).alloc (by simp) _) (by simp)).mono ?_; rintro e w1 ⟨rfl,hb1,hb2,hz1,hq⟩; obtain⟨hc1,hc2,hf1,hf2⟩:=two_kept hb1 hb2; have hz:w.heap.size+1<w1.heap.size:=(by simp at hz1; omega))
 refine leaves_cons (f:=297) (args:=#[.pointer (some ⟨w.heap.size,0,none⟩),.pointer (some ⟨w.heap.size+1,0,none⟩)]) (by simp) (by simp[go_sem]) ?_
 refine (frtried1_panic w.heap.size _ 0 c _ (hc1 0) (hc2 0) (hf1 0) (hf2 0) hz).mono ?_
 rintro e u' w2 ⟨rfl,rfl,g1,g2,hb2⟩
 clear HH hcall hmf hc1 hc2 hf1 hf2
 simp[Leaves,settle,results,Tryz.results280,go_sem,g1,g2]
 exact⟨w1,hq,hb2⟩
def fitFn:AVal→Bool
 |.fn _ []=>true
 |_=>false
def valFn:AVal→Value
 |.fn f _=>.func (.func f) #[] #[]
 |_=>.nilFunc
theorem frtried_tried:Tried2Ok Tryz.prog 280 191 fitFn valFn .nilfn .nilFunc where
 shape:=fun h g w u z hu hr=>by
  unfold fitFn at hu
  split at hu
  ·obtain⟨arr,rfl,hl⟩:=rep_fn hr
   have:arr=#[]:=Array.eq_empty_of_size_eq_zero hl.symm
   subst this
   rfl
  ·cases hu
 rep:=fun h g w u hu=>by
  unfold fitFn at hu
  split at hu
  ·exact .fn _ _ _ rfl fun j c x hc=>by simp at hc
  ·cases hu
 repz:=fun h g w=>.nilfn
 enter:=fun args w=>by kernel_rfl
 ok:=fun K caps u Q hu he w h=>by
  unfold fitFn at hu
  split at hu
  ·exact frtried_ok K caps _ Q he w h
  ·cases hu
 err:=fun K caps c Q he w h=>frtried_err K caps c Q he w h
noncomputable def fsD:FuncId→Option Fsp:=fun g=>
 if g=277 then some shareFS else
 if g=176 then some squareS else
 if g=283 then some mulS else
 if g=284 then some addS else
 if g=271 then some subS else
 fsC g
theorem fsD_ok:FsOk fsD:=
 fs_cons shareFS_ok <|
 fs_cons squareS_ok <|
 fs_cons mulS_ok <|
 fs_cons addS_ok <|
 fs_cons subS_ok <|
 fsC_ok
noncomputable def spB:FuncId→Option (Cv→Cv):=fun g=>
 if g=65 then some (tried2S fxm fitI (.int .i64 0)) else
 if g=272 then some (tried2S fxm fitB0 (.bool false)) else
 if g=274 then some (tried2S fxm fitSp (.agg [.int .i64 0,.int .i64 0])) else
 if g=280 then some (tried2S fxm fitFn .nilfn) else
 spA g
theorem spB_ok:SpOk spB:=
 sp_cons (fun cv h caps=>tried2_at fitried_tried cv h caps) <|
 sp_cons (fun cv h caps=>tried2_at fbtried_tried cv h caps) <|
 sp_cons (fun cv h caps=>tried2_at fstried_tried cv h caps) <|
 sp_cons (fun cv h caps=>tried2_at frtried_tried cv h caps) <|
 spA_ok
/-! Closures that are called in regions that draw their order. -/
noncomputable def unit1S:Fsp:=fun _ args k=>match args with
 | [.int .i64 x,.int .i64 _,.rp [.int .u64 h,.int .u64 l]]=>bif i6 x&&shB (ab x) h l then k (i1 (sg (ngB x) (shr (ab x) (vw h l)))) else none
 |_=>none
theorem shr_in {x h l:Int} (hb:shB x h l=true):0≤shr x (vw h l)∧shr x (vw h l)≤65536∧shrP x (vw h l) (shr x (vw h l)).toNat=true∧shrP x (vw h l) ((shr x (vw h l)).toNat+1)=false:=by
 simp only[shB,Bool.and_eq_true,decide_eq_true_eq] at hb
 obtain⟨⟨⟨⟨x0,x1⟩,hh,hl⟩,hs0,hs⟩,hx⟩:=hb
 have a:=bs_spec (shrP x (vw h l)) (fun m n=>shr_anti (Int.le_of_lt hs0) m n) 17 0 (shr_zero x0) (shr_top hs0 hx _ (by decide))
 rw[shr_eq]
 refine⟨by omega,?_,a.1,a.2.1⟩
 rcases Nat.lt_or_ge (bs (shrP x (vw h l)) 17 0) 65537 with h|h
 ·omega
 ·have:=shr_top hs0 hx _ h; rw[a.1] at this; cases this
theorem unit1_text (N n:Nat) (α:Type) (x y h l:Int) (k:AOut→Option α):evFn real tab ((twT fsD spB).env real tab N (n+2)) N Tryz.f276 α [iN x,iN y,.rp [uN h,uN l]] k =
 bif i6 x then bif shB (ab x) h l then bif wB (shr (ab x) (vw h l)) then fitK (decide (x<0)) (shr (ab x) (vw h l)) k else none else none else none:=by kernel_rfl
theorem unit1S_ok:FspOk Tryz.prog 276 unit1S:=tower_S fsD_ok spB_ok ⟨Tryz.func276,fun _ _=>by kernel_rfl⟩ (by intro α args k; unfold unit1S; split<;>simp only[cond_bind,Option.bind_some,Option.bind_none]) fun args out hs h=>by
 unfold unit1S at h
 split at h
 ·rename_i x y h1 l
  refine⟨8,2,(unit1_text 8 0 AOut x y h1 l some).trans (Eq.trans ?_ h)⟩
  cases hx:i6 x
  ·rw[hx] at h; cases h
  ·cases hb:shB (ab x) h1 l
   ·rfl
   ·have a:=shr_in hb
    simp only[wB_iff.2 (show Word (shr (ab x) (vw h1 l)) from ⟨a.1,by omega⟩),fitK,fxB,decide_eq_true (show shr (ab x) (vw h1 l)≤70368744177664 by omega),Bool.and_self,cond_true]
    rfl
 ·cases h
def times2S:Fsp:=fun _ args k=>match args with
 | [.int .i64 x,.int .i64 _,.rp [.int .i64 b],.rp [.fn g []]]=>
   match howOf g with
   |some how=>bif okB x&&okB b then fitK (xorB (ngB x) (ngB b)) (prP x b how) k else k (mis fxm 2)
   |none=>none
 |_=>none
def times2Text {α:Type} (x b how:Int) (k:AOut→Option α):Option α:=bif okB x&&okB b then fitK (xorB (ngB x) (ngB b)) (prP x b how) k else k (mis fxm 2)
theorem times20_text (N n:Nat) (α:Type) (x y b:Int) (k:AOut→Option α):evFn real tab ((twT fsD spB).env real tab N (n+2)) N Tryz.f282 α [iN x,iN y,.rp [iN b],.rp [.fn 117 []]] k=times2Text x b 0 k:=by kernel_rfl
theorem times21_text (N n:Nat) (α:Type) (x y b:Int) (k:AOut→Option α):evFn real tab ((twT fsD spB).env real tab N (n+2)) N Tryz.f282 α [iN x,iN y,.rp [iN b],.rp [.fn 118 []]] k=times2Text x b 1 k:=by kernel_rfl
theorem times22_text (N n:Nat) (α:Type) (x y b:Int) (k:AOut→Option α):evFn real tab ((twT fsD spB).env real tab N (n+2)) N Tryz.f282 α [iN x,iN y,.rp [iN b],.rp [.fn 119 []]] k=times2Text x b 2 k:=by kernel_rfl
theorem times23_text (N n:Nat) (α:Type) (x y b:Int) (k:AOut→Option α):evFn real tab ((twT fsD spB).env real tab N (n+2)) N Tryz.f282 α [iN x,iN y,.rp [iN b],.rp [.fn 120 []]] k=times2Text x b 3 k:=by kernel_rfl
theorem times2S_ok:FspOk Tryz.prog 282 times2S:=tower_S fsD_ok spB_ok ⟨Tryz.func282,fun _ _=>by kernel_rfl⟩ (by intro α args k; unfold times2S; split<;>(try split)<;>simp only[cond_bind,fitK_bind,Option.bind_some,Option.bind_none]) fun args out hs h=>by
 unfold times2S at h
 split at h
 ·rename_i x y b g
  split at h
  ·rename_i how hg
   rcases how_cases hg with hf|⟨rfl,rfl⟩|⟨rfl,rfl⟩|⟨rfl,rfl⟩|⟨rfl,rfl⟩
   ·cases hf
   ·exact⟨8,2,(times20_text 8 0 AOut x y b some).trans h⟩
   ·exact⟨8,2,(times21_text 8 0 AOut x y b some).trans h⟩
   ·exact⟨8,2,(times22_text 8 0 AOut x y b some).trans h⟩
   ·exact⟨8,2,(times23_text 8 0 AOut x y b some).trans h⟩
  ·cases h
 ·cases h
noncomputable def fsE:FuncId→Option Fsp:=fun g=>
 if g=276 then some unit1S else
 if g=282 then some times2S else
 fsD g
theorem fsE_ok:FsOk fsE:=
 fs_cons unit1S_ok <|
 fs_cons times2S_ok <|
 fsD_ok
/-! Sums and differences of spots. -/
def two2 (p q:Int) (ok:Bool):Int × Int × Int:=bif ok then (bif fxB (ab p)&&fxB (ab q) then (p,q,0) else (0,0,4)) else (0,0,2)
def plP (x y u v:Int):Int × Int × Int:=two2 (x+u) (y+v) (four x y u v)
def miP (x y u v:Int):Int × Int × Int:=two2 (x-u) (y-v) (four x y u v)
def plX (x y u v:Int):Int:=(plP x y u v).1
def plY (x y u v:Int):Int:=(plP x y u v).2.1
def plE (x y u v:Int):Int:=(plP x y u v).2.2
def miX (x y u v:Int):Int:=(miP x y u v).1
def miY (x y u v:Int):Int:=(miP x y u v).2.1
def miE (x y u v:Int):Int:=(miP x y u v).2.2
def plusPS:Fsp:=fun _ args k=>match args with
 | [.agg [.int .i64 x,.int .i64 y],.agg [.int .i64 u,.int .i64 v]]=>k (s2 (plX x y u v) (plY x y u v) (plE x y u v))
 |_=>none
def minusPS:Fsp:=fun _ args k=>match args with
 | [.agg [.int .i64 x,.int .i64 y],.agg [.int .i64 u,.int .i64 v]]=>k (s2 (miX x y u v) (miY x y u v) (miE x y u v))
 |_=>none
def twoText {α:Type} (x y u v p q:Int) (k:AOut→Option α):Option α:=
 bif [x,y,u,v].all okB then
  bif okB x&&okB u then
   bif fxB (ab p) then
    bif okB y&&okB v then
     bif fxB (ab q) then k (s2 p q 0) else k (s2 0 0 4)
    else k (s2 0 0 2)
   else k (s2 0 0 4)
  else k (s2 0 0 2)
 else k (s2 0 0 2)
theorem two_fin {α:Type} (x y u v p q:Int) (k:AOut→Option α):twoText x y u v p q k=k (s2 (two2 p q (four x y u v)).1 (two2 p q (four x y u v)).2.1 (two2 p q (four x y u v)).2.2):=by
 unfold twoText two2 four
 rw[all4]
 cases okB x<;>cases okB y<;>cases okB u<;>cases okB v<;>cases fxB (ab p)<;>cases fxB (ab q)<;>rfl
theorem plusP_text (N n:Nat) (α:Type) (x y u v:Int) (k:AOut→Option α):evFn real tab ((twT fsE spB).env real tab N (n+6)) N Tryz.f258 α [sN x y,sN u v] k=twoText x y u v (x+u) (y+v) k:=by kernel_rfl
theorem plusPS_ok:FspOk Tryz.prog 258 plusPS:=tower_S fsE_ok spB_ok ⟨Tryz.func258,fun _ _=>by kernel_rfl⟩ (by intro α args k; unfold plusPS; split<;>rfl) fun args out hs h=>by
 unfold plusPS at h
 split at h
 ·rename_i x y u v
  exact⟨8,6,(plusP_text 8 0 AOut x y u v some).trans ((two_fin ..).trans h)⟩
 ·cases h
theorem minusP_text (N n:Nat) (α:Type) (x y u v:Int) (k:AOut→Option α):evFn real tab ((twT fsE spB).env real tab N (n+6)) N Tryz.f251 α [sN x y,sN u v] k=twoText x y u v (x-u) (y-v) k:=by kernel_rfl
theorem minusPS_ok:FspOk Tryz.prog 251 minusPS:=tower_S fsE_ok spB_ok ⟨Tryz.func251,fun _ _=>by kernel_rfl⟩ (by intro α args k; unfold minusPS; split<;>rfl) fun args out hs h=>by
 unfold minusPS at h
 split at h
 ·rename_i x y u v
  exact⟨8,6,(minusP_text 8 0 AOut x y u v some).trans ((two_fin ..).trans h)⟩
 ·cases h
/-! Within. -/
def within1S:Fsp:=fun _ args k=>match args with
 | [.agg [.int .i64 x,.int .i64 y],.int .i64 r]=>k (b2 (witV x y r) (witE x y r))
 |_=>none
theorem cmp3_le (a b:Int):decide (cmp3 a b≤0)=decide (a≤b):=by
 rw[decide_eq_decide]; unfold cmp3; repeat' split
 all_goals omega
theorem sq2_in {x y:Int} (hx:okB x=true) (hy:okB y=true):0≤sq2 x y∧sq2 x y≤9903520314283042199192993792:=by
 have a:=ab_mul_in hx hx
 have b:=ab_mul_in hy hy
 unfold sq2; omega
theorem ab_sq (x:Int):ab x*ab x=x*x:=by unfold ab; split; exact Int.neg_mul_neg x x; rfl
theorem within_text (N n:Nat) (α:Type) (x y u:Int) (k:AOut→Option α):evFn real tab ((twT fsE spB).env real tab N (n+6)) N Tryz.f252 α [sN x y,iN u] k =
 bif okB x&&okB y then bif [u].all okB then bif decide (u≥0) then bif i6 u then bif i6 u then bif wB (ab u)&&wB (ab u) then bif wB (loW (sq2 x y))&&wB (loW (ab u*ab u))
 then k (b2 (decide (cmp3 (vw (hiW (sq2 x y)) (loW (sq2 x y))) (vw (hiW (ab u*ab u)) (loW (ab u*ab u)))≤0)) 0) else none else none else none else none else k (b2 false 0) else
 k (b2 false 2) else k (b2 false 2):=by kernel_rfl
theorem within1S_ok:FspOk Tryz.prog 252 within1S:=tower_S fsE_ok spB_ok ⟨Tryz.func252,fun _ _=>by kernel_rfl⟩ (by intro α args k; unfold within1S; split<;>rfl) fun args out hs h=>by
 unfold within1S at h
 split at h
 ·rename_i x y u
  refine⟨8,6,(within_text 8 0 AOut x y u some).trans (Eq.trans ?_ h)⟩
  unfold witV witE witB
  rw[all1]
  cases hx:okB x
  ·rfl
  ·cases hy:okB y
   ·rfl
   ·cases hu:okB u
    ·rfl
    ·simp only[i6_ok hu,wB_ab (i6_ok hu),lo_wB,vw_hl,cmp3_le,Bool.and_self,cond_true,ab_sq]
     by_cases h0:0≤u
     ·rw[decide_eq_true h0]; rfl
     ·rw[decide_eq_false h0]; rfl
 ·cases h
/-! Unit. -/
noncomputable def uniS:Fsp:=fun _ args k=>match args with
 | [.agg [.int .i64 x,.int .i64 y]]=>k (s2 (uniV x y x) (uniV x y y) (uniE x y))
 |_=>none
theorem hl_zero (n:Int):(!!(hiW n==0&&(loW n==0&&true)))=(n==0):=by
 have e:=hiW_loW n
 rw[Bool.not_not,Bool.and_true]
 by_cases h:n=0
 ·subst h; rfl
 ·rw[beq_eq_false_iff_ne.2 h]
  by_cases h1:hiW n=0
  ·rw[beq_iff_eq.2 h1,beq_eq_false_iff_ne.2 (show loW n≠0 by omega)]; rfl
  ·rw[beq_eq_false_iff_ne.2 h1]; rfl
theorem shB_of {x y:Int} (hx:okB x=true) (hy:okB y=true) (hz:sq2 x y≠0):shB (ab x) (hiW (sq2 x y)) (loW (sq2 x y))=true∧shB (ab y) (hiW (sq2 x y)) (loW (sq2 x y))=true:=by
 have a:=ab_mul_in hx hx
 have b:=ab_mul_in hy hy
 have s:=sq2_in hx hy
 have hw:=hi_wB (show 0≤sq2 x y∧sq2 x y<_ from ⟨s.1,by omega⟩)
 have e1:ab x*ab x≤sq2 x y:=by unfold sq2; omega
 have e2:ab y*ab y≤sq2 x y:=by unfold sq2; omega
 simp only[shB,hw,lo_wB,vw_hl,decide_eq_true (ab_nn x),decide_eq_true (ab_nn y),decide_eq_true (ok_ab hx),decide_eq_true (ok_ab hy),decide_eq_true (show 0<sq2 x y by omega),decide_eq_true (show sq2 x y<19807040628566084398385987584 by omega),decide_eq_true e1,decide_eq_true e2,Bool.and_self]
 trivial
theorem unit_text (N n:Nat) (α:Type) (x y:Int) (k:AOut→Option α):evFn real tab ((twT fsE spB).env real tab N (n+6)) N Tryz.f254 α [sN x y] k =
 bif okB x&&okB y then bif !!(hiW (sq2 x y)==0&&(loW (sq2 x y)==0&&true)) then k (s2 0 0 10) else bif [x,y,x,y].all okB then bif i6 x&&shB (ab x) (hiW (sq2 x y)) (loW
 (sq2 x y)) then bif i6 y&&shB (ab y) (hiW (sq2 x y)) (loW (sq2 x y)) then k (s2 (sg (ngB x) (shr (ab x) (vw (hiW (sq2 x y)) (loW (sq2 x y))))) (sg (ngB y) (shr (ab y) (vw (hiW
 (sq2 x y)) (loW (sq2 x y))))) 0) else none else none else k (s2 0 0 0) else k (s2 0 0 2):=by kernel_rfl
theorem uniS_ok:FspOk Tryz.prog 254 uniS:=tower_S fsE_ok spB_ok ⟨Tryz.func254,fun _ _=>by kernel_rfl⟩ (by intro α args k; unfold uniS; split<;>rfl) fun args out hs h=>by
 unfold uniS at h
 split at h
 ·rename_i x y
  refine⟨8,6,(unit_text 8 0 AOut x y some).trans (Eq.trans ?_ h)⟩
  unfold uniV uniE uniB
  rw[all4,hl_zero]
  cases hx:okB x
  ·rfl
  ·cases hy:okB y
   ·rfl
   ·cases hz:sq2 x y==0
    ·obtain⟨a,b⟩:=shB_of hx hy (beq_eq_false_iff_ne.1 hz)
     simp only[i6_ok hx,i6_ok hy,a,b,vw_hl,Bool.and_self,cond_true,cond_false]
    ·rfl
 ·cases h
def fitT {α:Type} (neg:Bool) (n:Int) (k:AOut→Option α):Option α:=bif fxB n then k (i2 (sg neg n) 0) else k (i2 0 4)
theorem fitT_eq {α:Type} (neg:Bool) (n:Int) (k:AOut→Option α):fitT neg n k=k (i2 (fxV neg n) (fxE n)):=by
 unfold fitT fxV fxE; cases fxB n<;>rfl
/-! Times. -/
def tiOk (x y b:Int):Bool:=okB x&&okB y&&okB b
def tiFit (x y b how:Int):Bool:=fxB (prP x b how)&&fxB (prP y b how)
def tiV (x y b how c:Int):Int:=bif tiOk x y b&&tiFit x y b how then sg (xorB (ngB c) (ngB b)) (prP c b how) else 0
def tiE (x y b how:Int):Int:=bif tiOk x y b then (bif tiFit x y b how then 0 else 4) else 2
def timesS:Fsp:=fun _ args k=>match args with
 | [.agg [.int .i64 x,.int .i64 y],.int .i64 b,.int .i64 how]=>bif wayB how then k (s2 (tiV x y b how x) (tiV x y b how y) (tiE x y b how)) else none
 |_=>none
def timesText {α:Type} (x y b how:Int) (k:AOut→Option α):Option α:=
 bif [x,y,b].all okB then
  bif [x,y,x,y].all okB then
   bif okB x&&okB b then
    bif fxB (prP x b how) then
     bif okB y&&okB b then
      bif fxB (prP y b how) then k (s2 (sg (xorB (ngB x) (ngB b)) (prP x b how)) (sg (xorB (ngB y) (ngB b)) (prP y b how)) 0)
      else k (s2 0 0 4)
     else k (s2 0 0 2)
    else k (s2 0 0 4)
   else k (s2 0 0 2)
  else k (s2 0 0 2)
 else k (s2 0 0 2)
theorem times_fin {α:Type} (x y b how:Int) (k:AOut→Option α):timesText x y b how k=k (s2 (tiV x y b how x) (tiV x y b how y) (tiE x y b how)):=by
 unfold timesText tiV tiE tiOk tiFit
 rw[all3,all4]
 cases okB x<;>cases okB y<;>cases okB b<;>cases fxB (prP x b how)<;>cases fxB (prP y b how)<;>rfl
theorem times0_text (N n:Nat) (α:Type) (x y b:Int) (k:AOut→Option α):evFn real tab ((twT fsE spB).env real tab N (n+6)) N Tryz.f257 α [sN x y,iN b,iN 0] k=timesText x y b 0 k:=by kernel_rfl
theorem times1_text (N n:Nat) (α:Type) (x y b:Int) (k:AOut→Option α):evFn real tab ((twT fsE spB).env real tab N (n+6)) N Tryz.f257 α [sN x y,iN b,iN 1] k=timesText x y b 1 k:=by kernel_rfl
theorem times2_text (N n:Nat) (α:Type) (x y b:Int) (k:AOut→Option α):evFn real tab ((twT fsE spB).env real tab N (n+6)) N Tryz.f257 α [sN x y,iN b,iN 2] k=timesText x y b 2 k:=by kernel_rfl
theorem times3_text (N n:Nat) (α:Type) (x y b:Int) (k:AOut→Option α):evFn real tab ((twT fsE spB).env real tab N (n+6)) N Tryz.f257 α [sN x y,iN b,iN 3] k=timesText x y b 3 k:=by kernel_rfl
theorem timesS_ok:FspOk Tryz.prog 257 timesS:=tower_S fsE_ok spB_ok ⟨Tryz.func257,fun _ _=>by kernel_rfl⟩ (by intro α args k; unfold timesS; split<;>simp only[cond_bind,Option.bind_some,Option.bind_none]) fun args out hs h=>by
 unfold timesS at h
 split at h
 ·rename_i x y b how
  cases hw:wayB how
  ·rw[hw] at h; cases h
  ·rw[hw,cond_true] at h
   rcases way_cases hw with rfl|rfl|rfl|rfl
   ·exact⟨8,6,(times0_text 8 0 AOut x y b some).trans ((times_fin ..).trans h)⟩
   ·exact⟨8,6,(times1_text 8 0 AOut x y b some).trans ((times_fin ..).trans h)⟩
   ·exact⟨8,6,(times2_text 8 0 AOut x y b some).trans ((times_fin ..).trans h)⟩
   ·exact⟨8,6,(times3_text 8 0 AOut x y b some).trans ((times_fin ..).trans h)⟩
 ·cases h
/-! Dot. -/
def dtP (s how:Int):Int:=rndP how (ngB s) (ab s) 65536
def dtV (x y u v how:Int):Int:=bif four x y u v then fxV (ngB (dotS x y u v)) (dtP (dotS x y u v) how) else 0
def dtE (x y u v how:Int):Int:=bif four x y u v then fxE (dtP (dotS x y u v) how) else 2
def dotPS:Fsp:=fun _ args k=>match args with
 | [.agg [.int .i64 x,.int .i64 y],.agg [.int .i64 u,.int .i64 v],.int .i64 how]=>bif wayB how then k (i2 (dtV x y u v how) (dtE x y u v how)) else none
 |_=>none
def dotText {α:Type} (x u v w how:Int) (k:AOut→Option α):Option α:=
 bif [x,u,v,w].all okB then
  bif i6 x then
   bif i6 v then
    bif wB (ab x)&&wB (ab v) then
     bif i6 u then
      bif i6 w then
       bif wB (ab u)&&wB (ab w) then
        bif (!(decide (x<0)==decide (v<0)))==(!(decide (u<0)==decide (w<0))) then
         bif wB (hiW (ab x*ab v))&&wB (loW (ab x*ab v))&&wB (hiW (ab u*ab w))&&wB (loW (ab u*ab w))&&decide (vw (hiW (ab x*ab v)) (loW (ab x*ab v))+vw (hiW (ab u*ab w)) (loW (ab u*ab w))<340282366920938463463374607431768211456) then
          bif wB (hiW (vw (hiW (ab x*ab v)) (loW (ab x*ab v))+vw (hiW (ab u*ab w)) (loW (ab u*ab w))))&&wB (loW (vw (hiW (ab x*ab v)) (loW (ab x*ab v))+vw (hiW (ab u*ab w)) (loW (ab u*ab w))))&&wB 65536&&decide ((0:Int)<65536) then
           fitT (!(decide (x<0)==decide (v<0))) (rndP how (!(decide (x<0)==decide (v<0))) (vw (hiW (vw (hiW (ab x*ab v)) (loW (ab x*ab v))+vw (hiW (ab u*ab w)) (loW (ab u*ab w)))) (loW (vw (hiW (ab x*ab v)) (loW (ab x*ab v))+vw (hiW (ab u*ab w)) (loW (ab u*ab w))))) 65536) k
          else none
         else none
        else
         bif wB (loW (ab x*ab v))&&wB (loW (ab u*ab w)) then
          bif decide (cmp3 (vw (hiW (ab x*ab v)) (loW (ab x*ab v))) (vw (hiW (ab u*ab w)) (loW (ab u*ab w)))≥0) then
           bif wB (hiW (ab x*ab v))&&wB (loW (ab x*ab v))&&wB (hiW (ab u*ab w))&&wB (loW (ab u*ab w))&&decide (vw (hiW (ab u*ab w)) (loW (ab u*ab w))≤vw (hiW (ab x*ab v)) (loW (ab x*ab v))) then
            bif wB (hiW (vw (hiW (ab x*ab v)) (loW (ab x*ab v))-vw (hiW (ab u*ab w)) (loW (ab u*ab w))))&&wB (loW (vw (hiW (ab x*ab v)) (loW (ab x*ab v))-vw (hiW (ab u*ab w)) (loW (ab u*ab w))))&&wB 65536&&decide ((0:Int)<65536) then
             fitT (!(decide (x<0)==decide (v<0))) (rndP how (!(decide (x<0)==decide (v<0))) (vw (hiW (vw (hiW (ab x*ab v)) (loW (ab x*ab v))-vw (hiW (ab u*ab w)) (loW (ab u*ab w)))) (loW (vw (hiW (ab x*ab v)) (loW (ab x*ab v))-vw (hiW (ab u*ab w)) (loW (ab u*ab w))))) 65536) k
            else none
           else none
          else
           bif wB (hiW (ab u*ab w))&&wB (loW (ab u*ab w))&&wB (hiW (ab x*ab v))&&wB (loW (ab x*ab v))&&decide (vw (hiW (ab x*ab v)) (loW (ab x*ab v))≤vw (hiW (ab u*ab w)) (loW (ab u*ab w))) then
            bif wB (hiW (vw (hiW (ab u*ab w)) (loW (ab u*ab w))-vw (hiW (ab x*ab v)) (loW (ab x*ab v))))&&wB (loW (vw (hiW (ab u*ab w)) (loW (ab u*ab w))-vw (hiW (ab x*ab v)) (loW (ab x*ab v))))&&wB 65536&&decide ((0:Int)<65536) then
             fitT (!(decide (u<0)==decide (w<0))) (rndP how (!(decide (u<0)==decide (w<0))) (vw (hiW (vw (hiW (ab u*ab w)) (loW (ab u*ab w))-vw (hiW (ab x*ab v)) (loW (ab x*ab v)))) (loW (vw (hiW (ab u*ab w)) (loW (ab u*ab w))-vw (hiW (ab x*ab v)) (loW (ab x*ab v))))) 65536) k
            else none
           else none
         else none
       else none
      else none
     else none
    else none
   else none
  else none
 else k (i2 0 2)
theorem mul_sg (a b:Int):a*b=sg (xorB (ngB a) (ngB b)) (ab a*ab b):=by
 unfold sg xorB ngB ab
 by_cases h1:a<0<;>by_cases h2:b<0<;>simp[h1,h2,Int.neg_mul,Int.mul_neg]
theorem rnd0 (how:Int) (neg:Bool):rndP how neg 0 65536=0:=by
 unfold rndP rnd up1; simp
theorem fit_sign {α:Type} {s N how:Int} {neg:Bool} (hs:s=sg neg N) (hN:0≤N) (k:AOut→Option α):fitT neg (rndP how neg N 65536) k=k (i2 (fxV (ngB s) (dtP s how)) (fxE (dtP s how))):=by
 rw[fitT_eq]
 unfold dtP
 rcases Int.lt_or_eq_of_le hN with h|h
 ·have e1:ngB s=neg∧ab s=N:=by
   subst hs; unfold ngB ab sg
   cases neg
   ·simp only[cond_false]; rw[decide_eq_false (by omega),if_neg (by omega)]; exact⟨rfl,rfl⟩
   ·simp only[cond_true]; rw[decide_eq_true (by omega),if_pos (by omega)]; exact⟨rfl,by omega⟩
  rw[e1.1,e1.2]
 ·subst h
  have e:s=0:=by subst hs; cases neg<;>rfl
  subst e
  rw[show ab 0=0 from rfl,rnd0,rnd0]
  cases neg<;>rfl
theorem dot_fin {α:Type} (x u v w how:Int) (k:AOut→Option α):dotText x u v w how k=k (i2 (dtV x u v w how) (dtE x u v w how)):=by
 unfold dotText dtV dtE four
 rw[all4]
 cases hx:okB x
 ·rfl
 ·cases hu:okB u
  ·rfl
  ·cases hv:okB v
   ·rfl
   ·cases hw:okB w
    ·rfl
    ·have p:=ab_mul_in hx hv
     have q:=ab_mul_in hu hw
     have e1:=mul_sg x v
     have e2:=mul_sg u w
     simp only[i6_ok hx,i6_ok hu,i6_ok hv,i6_ok hw,wB_ab (i6_ok hx),wB_ab (i6_ok hu),wB_ab (i6_ok hv),wB_ab (i6_ok hw),lo_wB,vw_hl,hi_wB (show 0≤ab x*ab v∧ab x*ab v<_ from ⟨p.1,by omega⟩),hi_wB (show 0≤ab u*ab w∧ab u*ab w<_ from ⟨q.1,by omega⟩),Bool.and_self,cond_true,show wB 65536=true from rfl,show decide ((0:Int)<65536)=true from rfl,Bool.true_and]
     have e3:dotS x u v w=x*v+u*w:=rfl
     have g1:(!(decide (x<0)==decide (v<0)))=xorB (ngB x) (ngB v):=rfl
     have g2:(!(decide (u<0)==decide (w<0)))=xorB (ngB u) (ngB w):=rfl
     rw[g1,g2]
     generalize xorB (ngB x) (ngB v)=m at *
     generalize xorB (ngB u) (ngB w)=n at *
     generalize ab x*ab v=P at *
     generalize ab u*ab w=Q at *
     rw[e1,e2] at e3
     generalize dotS x u v w=s at *
     by_cases hmn:m=n
     ·subst hmn
      rw[beq_self_eq_true,cond_true,decide_eq_true (show P+Q<340282366920938463463374607431768211456 by omega),hi_wB (show 0≤P+Q∧P+Q<_ from ⟨by omega,by omega⟩)]
      simp only[Bool.and_self,cond_true]
      exact fit_sign (by rw[e3]; cases m<;>simp[sg]; omega) (by omega) k
     ·rw[beq_eq_false_iff_ne.2 hmn,cond_false]
      have hn:n=!m:=by cases m<;>cases n<;>simp at hmn ⊢
      subst hn
      by_cases hc:Q≤P
      ·rw[decide_eq_true (show cmp3 P Q≥0 by unfold cmp3; repeat' split
                                             all_goals omega),decide_eq_true hc,hi_wB (show 0≤P-Q∧P-Q<_ from ⟨by omega,by omega⟩)]
       simp only[Bool.and_self,cond_true]
       exact fit_sign (by rw[e3]; cases m<;>simp[sg]<;>omega) (by omega) k
      ·rw[decide_eq_false (show ¬cmp3 P Q≥0 by unfold cmp3; repeat' split
                                               all_goals omega),decide_eq_true (show P≤Q by omega),hi_wB (show 0≤Q-P∧Q-P<_ from ⟨by omega,by omega⟩)]
       simp only[Bool.and_self,cond_true,cond_false]
       exact fit_sign (by rw[e3]; cases m<;>simp[sg]<;>omega) (by omega) k
theorem dot0_text (N n:Nat) (α:Type) (x u v w:Int) (k:AOut→Option α):evFn real tab ((twT fsE spB).env real tab N (n+6)) N Tryz.f256 α [sN x u,sN v w,iN 0] k=dotText x u v w 0 k:=by kernel_rfl
theorem dot1_text (N n:Nat) (α:Type) (x u v w:Int) (k:AOut→Option α):evFn real tab ((twT fsE spB).env real tab N (n+6)) N Tryz.f256 α [sN x u,sN v w,iN 1] k=dotText x u v w 1 k:=by kernel_rfl
theorem dot2_text (N n:Nat) (α:Type) (x u v w:Int) (k:AOut→Option α):evFn real tab ((twT fsE spB).env real tab N (n+6)) N Tryz.f256 α [sN x u,sN v w,iN 2] k=dotText x u v w 2 k:=by kernel_rfl
theorem dot3_text (N n:Nat) (α:Type) (x u v w:Int) (k:AOut→Option α):evFn real tab ((twT fsE spB).env real tab N (n+6)) N Tryz.f256 α [sN x u,sN v w,iN 3] k=dotText x u v w 3 k:=by kernel_rfl
theorem dotPS_ok:FspOk Tryz.prog 256 dotPS:=tower_S fsE_ok spB_ok ⟨Tryz.func256,fun _ _=>by kernel_rfl⟩ (by intro α args k; unfold dotPS; split<;>simp only[cond_bind,Option.bind_some,Option.bind_none]) fun args out hs h=>by
 unfold dotPS at h
 split at h
 ·rename_i x u v w how
  cases hw:wayB how
  ·rw[hw] at h; cases h
  ·rw[hw,cond_true] at h
   rcases way_cases hw with rfl|rfl|rfl|rfl
   ·exact⟨8,6,(dot0_text 8 0 AOut x u v w some).trans ((dot_fin ..).trans h)⟩
   ·exact⟨8,6,(dot1_text 8 0 AOut x u v w some).trans ((dot_fin ..).trans h)⟩
   ·exact⟨8,6,(dot2_text 8 0 AOut x u v w some).trans ((dot_fin ..).trans h)⟩
   ·exact⟨8,6,(dot3_text 8 0 AOut x u v w some).trans ((dot_fin ..).trans h)⟩
 ·cases h
/-! Scale. -/
def slP (a n d how:Int):Int:=rndP how (scG a n d) (ab a*ab n) (ab d)
def slOk (a n d:Int):Bool:=okB a&&(rateB n&&rateB d)
def slV (a n d how:Int):Int:=bif slOk a n d then (bif d==0 then 0 else fxV (scG a n d) (slP a n d how)) else 0
def slE (a n d how:Int):Int:=bif slOk a n d then (bif d==0 then 10 else fxE (slP a n d how)) else 2
def scaleS:Fsp:=fun _ args k=>match args with
 | [.int .i64 a,.int .i64 n,.int .i64 d,.int .i64 how]=>bif wayB how then k (i2 (slV a n d how) (slE a n d how)) else none
 |_=>none
def scaleText {α:Type} (x u v how:Int) (k:AOut→Option α):Option α:=
 bif [x].all okB then
  bif decide (u≥-2147483648) then
   bif decide (u≤2147483648) then
    bif decide (v≥-2147483648) then
     bif !(decide (v≤2147483648)) then k (i2 0 2)
     else
      bif !(v != 0) then k (i2 0 10)
      else
       bif i6 x then
        bif i6 u then
         bif wB (ab x)&&wB (ab u) then
          bif i6 v then
           bif wB (hiW (ab x*ab u))&&wB (loW (ab x*ab u))&&wB (ab v)&&decide (0<ab v) then
            fitT (!(decide (x<0)==!(decide (u<0)==decide (v<0)))) (rndP how (!(decide (x<0)==!(decide (u<0)==decide (v<0)))) (vw (hiW (ab x*ab u)) (loW (ab x*ab u))) (ab v)) k
           else none
          else none
         else none
        else none
       else none
    else k (i2 0 2)
   else k (i2 0 2)
  else k (i2 0 2)
 else k (i2 0 2)
theorem rate_ok {n:Int} (h:rateB n=true):okB n=true:=by rw[rate_iff] at h; rw[ok_iff]; omega
theorem scale_fin {α:Type} (x u v how:Int) (k:AOut→Option α):scaleText x u v how k=k (i2 (slV x u v how) (slE x u v how)):=by
 unfold scaleText slV slE slOk
 rw[all1]
 cases hx:okB x
 ·rfl
 ·have r1:rateB u=(decide (u≥-2147483648)&&decide (u≤2147483648)):=rfl
  have r2:rateB v=(decide (v≥-2147483648)&&decide (v≤2147483648)):=rfl
  cases hu:rateB u
  ·rw[hu] at r1
   cases h1:decide (u≥-2147483648)
   ·rfl
   ·rw[h1,Bool.true_and] at r1
    rw[←r1]; rfl
  ·rw[hu] at r1
   have r1:=Bool.and_eq_true_iff.1 r1.symm
   rw[r1.1,r1.2]
   cases hv:rateB v
   ·rw[hv] at r2
    cases h1:decide (v≥-2147483648)
    ·rfl
    ·rw[h1,Bool.true_and] at r2
     rw[←r2]; rfl
   ·rw[hv] at r2
    have r2:=Bool.and_eq_true_iff.1 r2.symm
    rw[r2.1,r2.2]
    by_cases hz:v=0
    ·subst hz; rfl
    ·have hu':=rate_ok hu
     have hv':=rate_ok hv
     have p:=ab_mul_in hx hu'
     have hav:0<ab v:=by unfold ab; split<;>omega
     have hb:(v != 0)=true:=by simp[hz]
     have hb2:(v==0)=false:=by simp[hz]
     simp only[hb,hb2,i6_ok hx,i6_ok hu',i6_ok hv',wB_ab (i6_ok hx),wB_ab (i6_ok hu'),wB_ab (i6_ok hv'),lo_wB,vw_hl,hi_wB (show 0≤ab x*ab u∧ab x*ab u<_ from ⟨p.1,by omega⟩),decide_eq_true hav,Bool.and_self,cond_true,cond_false,Bool.not_true]
     rw[fitT_eq]
     rfl
theorem scale0_text (N n:Nat) (α:Type) (x u v:Int) (k:AOut→Option α):evFn real tab ((twT fsE spB).env real tab N (n+6)) N Tryz.f128 α [iN x,iN u,iN v,iN 0] k=scaleText x u v 0 k:=by kernel_rfl
theorem scale1_text (N n:Nat) (α:Type) (x u v:Int) (k:AOut→Option α):evFn real tab ((twT fsE spB).env real tab N (n+6)) N Tryz.f128 α [iN x,iN u,iN v,iN 1] k=scaleText x u v 1 k:=by kernel_rfl
theorem scale2_text (N n:Nat) (α:Type) (x u v:Int) (k:AOut→Option α):evFn real tab ((twT fsE spB).env real tab N (n+6)) N Tryz.f128 α [iN x,iN u,iN v,iN 2] k=scaleText x u v 2 k:=by kernel_rfl
theorem scale3_text (N n:Nat) (α:Type) (x u v:Int) (k:AOut→Option α):evFn real tab ((twT fsE spB).env real tab N (n+6)) N Tryz.f128 α [iN x,iN u,iN v,iN 3] k=scaleText x u v 3 k:=by kernel_rfl
theorem scaleS_ok:FspOk Tryz.prog 128 scaleS:=tower_S fsE_ok spB_ok ⟨Tryz.func128,fun _ _=>by kernel_rfl⟩ (by intro α args k; unfold scaleS; split<;>simp only[cond_bind,Option.bind_some,Option.bind_none]) fun args out hs h=>by
 unfold scaleS at h
 split at h
 ·rename_i x u v how
  cases hw:wayB how
  ·rw[hw] at h; cases h
  ·rw[hw,cond_true] at h
   rcases way_cases hw with rfl|rfl|rfl|rfl
   ·exact⟨8,6,(scale0_text 8 0 AOut x u v some).trans ((scale_fin ..).trans h)⟩
   ·exact⟨8,6,(scale1_text 8 0 AOut x u v some).trans ((scale_fin ..).trans h)⟩
   ·exact⟨8,6,(scale2_text 8 0 AOut x u v some).trans ((scale_fin ..).trans h)⟩
   ·exact⟨8,6,(scale3_text 8 0 AOut x u v some).trans ((scale_fin ..).trans h)⟩
 ·cases h
noncomputable def fsF:FuncId→Option Fsp:=fun g=>
 if g=258 then some plusPS else
 if g=251 then some minusPS else
 if g=252 then some within1S else
 if g=254 then some uniS else
 if g=257 then some timesS else
 if g=256 then some dotPS else
 if g=128 then some scaleS else
 fsE g
theorem fsF_ok:FsOk fsF:=
 fs_cons plusPS_ok <|
 fs_cons minusPS_ok <|
 fs_cons within1S_ok <|
 fs_cons uniS_ok <|
 fs_cons timesS_ok <|
 fs_cons dotPS_ok <|
 fs_cons scaleS_ok <|
 fsE_ok
noncomputable def spC:FuncId→Option (Cv→Cv):=fun g=>
 if g=143 then some (triedS 226) else
 spB g
theorem spC_ok:SpOk spC:=
 sp_cons (fun cv h caps=>tried_at cotried_tried cv h caps) <|
 spB_ok
end Go.Proofs.YtpgfncncgjihpaaGreat
namespace Go.Proofs.YtpgfncncgjihpaaGreat
theorem near_eq {n d:Int} (hn:0≤n) (hd:0<d):rnd 3 false n d=(2*n+d) / (2*d):=by
 have hu:up1 3 false (n % d) d=(decide (0<n % d)&&decide (d≤n % d+n % d)):=rfl
 unfold rnd
 rw[hu]
 have e1:=Int.emod_add_mul_ediv n d
 have e2:=Int.emod_nonneg n (show d≠0 by omega)
 have e3:=Int.emod_lt_of_pos n hd
 have hmul:2*d*(n / d)=2*(d*(n / d)):=by rw[Int.mul_assoc]
 generalize n / d=q at *
 generalize n % d=r at *
 by_cases h:d≤r+r
 ·rw[decide_eq_true (show 0<r by omega),decide_eq_true h]
  have e:2*n+d=(2*r-d)+2*d*(q+1):=by rw[Int.mul_add,hmul]; omega
  rw[e,Int.add_mul_ediv_left _ _ (by omega),Int.ediv_eq_zero_of_lt (by omega) (by omega)]
  simp
 ·rw[decide_eq_false h,Bool.and_false]
  have e:2*n+d=(2*r+d)+2*d*q:=by rw[hmul]; omega
  rw[e,Int.add_mul_ediv_left _ _ (by omega),Int.ediv_eq_zero_of_lt (by omega) (by omega)]
  simp
theorem near_mono {n m d:Int} (hn:0≤n) (h:n≤m) (hd:0<d):rnd 3 false n d≤rnd 3 false m d:=by
 rw[near_eq hn hd,near_eq (by omega) hd]
 exact Int.ediv_le_ediv (by omega) (by omega)
theorem near_mul {m d:Int} (hm:0≤m) (hd:0<d):rnd 3 false (m*d) d=m:=by
 rw[near_eq (Int.mul_nonneg hm (by omega)) hd,show 2*(m*d)+d=d+2*d*m by rw[Int.mul_comm m d,Int.mul_assoc]; omega,Int.add_mul_ediv_left _ _ (by omega),Int.ediv_eq_zero_of_lt (by omega) (by omega)]
 omega
theorem near_nn {n d:Int} (hn:0≤n) (hd:0<d):0≤rnd 3 false n d:=rnd_nn hn hd
def lesV (fl ke p:Int):Int:=rnd 3 false ((fl-ke)*p) 1000
def brkV (fl ke sw p q:Int):Int:=rnd 3 false ((fl-lesV fl ke p)*(1000000-sw*q)) 1000000
def bndV (be q:Int):Int:=rnd 3 false (65536*(be*(2000-q))) 2000000
structure GrIs (fl ke sw be we:Int):Prop where
 ke:1≤ke∧ke≤fl
 fl:fl≤65536
 sw:0≤sw∧sw≤1000
 be:0≤be∧be≤1000
 we:0≤we∧we≤1000
abbrev Gr1 (p:Int):Prop:=0≤p∧p≤1000
theorem mul_in {a b A B:Int} (ha:0≤a∧a≤A) (hb:0≤b∧b≤B):0≤a*b∧a*b≤A*B:=⟨Int.mul_nonneg ha.1 hb.1,Int.mul_le_mul ha.2 hb.2 hb.1 (by omega)⟩
theorem les_in {fl ke sw be we p:Int} (g:GrIs fl ke sw be we) (hp:Gr1 p):0≤lesV fl ke p∧lesV fl ke p≤fl-ke:=by
 have:=g.ke
 have a:=mul_in (a:=fl-ke) (A:=fl-ke) (b:=p) (B:=1000) ⟨by omega,by omega⟩ hp
 refine⟨near_nn a.1 (by omega),?_⟩
 have:=near_mono a.1 a.2 (d:=1000) (by omega)
 rwa [near_mul (by omega) (by omega)] at this
theorem swp_in {sw q:Int} (hs:0≤sw∧sw≤1000) (hq:Gr1 q):0≤1000000-sw*q∧1000000-sw*q≤1000000:=by
 have:=mul_in hs hq; omega
theorem brk_in {fl ke sw be we p q:Int} (g:GrIs fl ke sw be we) (hp:Gr1 p) (hq:Gr1 q):0≤brkV fl ke sw p q∧brkV fl ke sw p q≤fl:=by
 have l:=les_in g hp
 have k:=g.ke
 have s:=swp_in g.sw hq
 have a:=mul_in (a:=fl-lesV fl ke p) (A:=fl) (b:=1000000-sw*q) (B:=1000000) ⟨by omega,by omega⟩ s
 refine⟨near_nn a.1 (by omega),?_⟩
 have:=near_mono a.1 a.2 (d:=1000000) (by omega)
 rwa [near_mul (by omega) (by omega)] at this
theorem bnd_in {be q:Int} (hb:0≤be∧be≤1000) (hq:Gr1 q):0≤bndV be q∧bndV be q≤65536:=by
 have a:=mul_in hb (b:=2000-q) (B:=2000) ⟨by omega,by omega⟩
 have b:=mul_in (a:=65536) (A:=65536) (b:=be*(2000-q)) (B:=2000000) ⟨by omega,by omega⟩ ⟨a.1,by omega⟩
 refine⟨near_nn b.1 (by omega),?_⟩
 have:=near_mono b.1 b.2 (d:=2000000) (by omega)
 rwa [near_mul (by omega) (by omega)] at this
end Go.Proofs.YtpgfncncgjihpaaGreat
