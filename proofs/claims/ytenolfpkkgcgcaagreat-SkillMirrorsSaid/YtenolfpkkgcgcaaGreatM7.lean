/- Parts of the proof, in build order. -/
import Derived.Test.YtenolfpkkgcgcaaGreatM6
import Derived.Shelf.Spec.BitsCarry
namespace Go.Proofs.YtenolfpkkgcgcaaGreat
open Go.RowKit
theorem kw {P:Program} {f:FuncId} {S:Fsp} (hn:∀(α:Type) args (k:AOut→Option α),S α args k=(S AOut args some).bind k) (hen:∀args w,(callFunc f args).run P w=.ok (.enter f args) w)
  (h:∀args out,S AOut args some=some out→args.all AVal.p1=true∧out.plain=true∧∀w,Calls P f (args.map AVal.v1).toArray w fun e w'=>e=out.ending∧Below w.heap.size w w'):FspOk P f S where
 enter:=hen
 nat:=hn
 calls:=fun args out hout M w cargs hM hl hr=>by
  obtain⟨h1,h2,h3⟩:=h args out hout
  rw[Eo hl hr h1]
  refine (h3 w).mono ?_
  rintro e w' ⟨rfl,hb⟩
  refine⟨M,fun _ h=>h,fun _ h=>.inl h,fun b h=>Nat.lt_of_lt_of_le (hM b h) hb.size,hb,?_⟩
  cases out with
  |ret v=>exact⟨_,rfl,BH h2⟩
  |pan v=>exact⟨_,rfl,BH h2⟩
def wB (x:Int):Bool:=decide (0≤x)&&decide (x<18446744073709551616)
theorem bz {x:Int}:wB x=true↔bG x:=by simp[wB,bG]
def vS:Fsp:=fun _ args k=>match args with
 | [.int .u64 x,.int .u64 y]=>bif wB x&&wB y then k (.ret (.tup [uN (hiW (x*y)),uN (loW (x*y))])) else none
 |_=>none
theorem GR:FspOk Tryz.prog 134 vS:=kw (by intro α args k; unfold vS; split<;>simp only[ak,Option.bind_some,Option.bind_none]) (fun args w=>by kernel_rfl) fun args out h=>by
 unfold vS at h
 split at h
 ·rename_i x y
  cases hw:wB x&&wB y
  ·rw[hw] at h; cases h
  ·rw[hw] at h; cases h
   simp only[Bool.and_eq_true,bz] at hw
   refine⟨rfl,rfl,fun w=>(PH x y hw.1 hw.2 w).mono ?_⟩
   rintro e w' ⟨rfl,rfl⟩
   exact⟨rfl,Below.refl _ _⟩
 ·cases h
def ul:Fsp:=fun _ args k=>match args with
 | [.int .u64 x,.int .u64 y]=>bif wB x&&wB y then k (.ret (.agg [uN (hiW (x*y)),uN (loW (x*y))])) else none
 |_=>none
theorem zo:FspOk Tryz.prog 77 ul:=kw (by intro α args k; unfold ul; split<;>simp only[ak,Option.bind_some,Option.bind_none]) (fun args w=>by kernel_rfl) fun args out h=>by
 unfold ul at h
 split at h
 ·rename_i x y
  cases hw:wB x&&wB y
  ·rw[hw] at h; cases h
  ·rw[hw] at h; cases h
   simp only[Bool.and_eq_true,bz] at hw
   refine⟨rfl,rfl,fun w=>(GQ x y w hw.1 hw.2).mono ?_⟩
   rintro e w' ⟨rfl,hb⟩
   exact⟨rfl,hb⟩
 ·cases h
def zp:Fsp:=fun _ args k=>match args with
 | [.agg [.int .u64 a,.int .u64 b],.agg [.int .u64 c,.int .u64 d]]=>k (.ret (.int .i64 (orI (rJ a c) (rJ b d))))
 |_=>none
theorem rK:FspOk Tryz.prog 45 zp:=kw (by intro α args k; unfold zp; split<;>rfl) (fun args w=>by kernel_rfl) fun args out h=>by
 unfold zp at h
 split at h
 ·rename_i a b c d
  cases h
  refine⟨rfl,rfl,fun w=>(BP a b c d w).mono ?_⟩
  rintro e w' ⟨rfl,hb⟩
  exact⟨rfl,hb⟩
 ·cases h
def Es:Fsp:=fun _ args k=>match args with
 | [.agg [.int .u64 h,.int .u64 l],.int .u64 d]=>bif wB h&&wB l&&wB d then (bif decide (d≤h) then k (.ret (.tup [uN 0,uN 0,bN false])) else k (.ret (.tup [uN (fO h l d),uN (bB h l d),bN true]))) else none
 |_=>none
theorem KS:FspOk Tryz.prog 147 Es:=kw (by intro α args k; unfold Es; split<;>simp only[ak,Option.bind_some,Option.bind_none]) (fun args w=>by kernel_rfl) fun args out h=>by
 unfold Es at h
 split at h
 ·rename_i x y d
  cases hw:wB x&&wB y&&wB d
  ·rw[hw] at h; cases h
  ·rw[hw] at h
   simp only[Bool.and_eq_true,bz] at hw
   by_cases hd:d≤x
   ·rw[decide_eq_true hd] at h; cases h
    refine⟨rfl,rfl,fun w=>(Oy x y d w hd).mono ?_⟩
    rintro e w' ⟨rfl,hb⟩
    exact⟨rfl,hb⟩
   ·rw[decide_eq_false hd] at h; cases h
    refine⟨rfl,rfl,fun w=>(KR x y d w hw.1.1.1 hw.1.2 hw.2.2 (by omega)).mono ?_⟩
    rintro e w' ⟨rfl,hb⟩
    exact⟨rfl,hb⟩
 ·cases h
def vT:Fsp:=fun _ args k=>match args with
 | [.int .u64 x,.int .u64 y,.int .u64 c]=>bif wB x&&wB y&&(decide (0≤c)&&decide (c≤1)) then k (.ret (.tup [uN ((x+y+c) % 18446744073709551616),uN ((x+y+c) / 18446744073709551616)])) else none
 |_=>none
theorem GS (cv:Cv) (h:CvOk Tryz.prog cv) (caps:List AVal):CvAt Tryz.prog (BI vT cv) (.fn 148 caps):=KI (by intro α args k; unfold vT; split<;>simp only[ak,Option.bind_some,Option.bind_none]) (fun args r h=>by
 unfold vT at h
 split at h
 ·rename_i x y c
  cases hw:wB x&&wB y&&(decide (0≤c)&&decide (c≤1))
  ·rw[hw] at h; cases h
  ·rw[hw] at h; cases h
   simp only[Bool.and_eq_true,bz,decide_eq_true_eq] at hw
   exact⟨_,rfl,⟨_,rfl,fun f cs=>by simp⟩,rfl,rfl,fun w=>SX x y c hw.1.1.1 hw.1.2.1 hw.2.1 hw.2.2 w⟩
 ·cases h) cv h caps
theorem S3 (x y b:Nat) (hb:b≤1) (w:World):(callFunc 249 #[.int .u64 x,.int .u64 y,.int .u64 b]).run Tryz.prog w =
  .ok (.value (.tuple #[.int .u64 (((x+18446744073709551616-y-b) % 18446744073709551616:Nat):Int),.int .u64 ((if x<y+b then 1 else 0:Nat):Int)])) w:=by
 rw[run_callFunc_extern Tryz.func249 (by kernel_rfl) (by kernel_rfl) (by kernel_rfl) (e:=sub64Entry) (by kernel_rfl),run_sub64 x y b hb]
 rfl
def vU:Fsp:=fun _ args k=>match args with
 | [.int .u64 x,.int .u64 y,.int .u64 c]=>bif wB x&&wB y&&(decide (0≤c)&&decide (c≤1)) then k (.ret (.tup [uN ((x-y-c) % 18446744073709551616),uN (if x<y+c then 1 else 0)])) else none
 |_=>none
theorem GT (cv:Cv) (h:CvOk Tryz.prog cv) (caps:List AVal):CvAt Tryz.prog (BI vU cv) (.fn 249 caps):=KI (by intro α args k; unfold vU; split<;>simp only[ak,Option.bind_some,Option.bind_none]) (fun args r h=>by
 unfold vU at h
 split at h
 ·rename_i x y c
  cases hw:wB x&&wB y&&(decide (0≤c)&&decide (c≤1))
  ·rw[hw] at h; cases h
  ·rw[hw] at h; cases h
   simp only[Bool.and_eq_true,bz,decide_eq_true_eq] at hw
   refine⟨_,rfl,⟨_,rfl,fun f cs=>by simp⟩,rfl,rfl,fun w=>?_⟩
   obtain⟨⟨⟨h1,h2⟩,h3,h4⟩,h5,h6⟩:=hw
   obtain⟨x,rfl⟩:=Int.eq_ofNat_of_zero_le h1
   obtain⟨y,rfl⟩:=Int.eq_ofNat_of_zero_le h3
   obtain⟨c,rfl⟩:=Int.eq_ofNat_of_zero_le h5
   refine (S3 x y c (by omega) w).trans ?_
   have e1:(((x+18446744073709551616-y-c) % 18446744073709551616:Nat):Int)=((x:Int)-y-c) % 18446744073709551616:=by omega
   have e2:((if x<y+c then 1 else 0:Nat):Int)=if (x:Int)<y+c then 1 else 0:=by split<;>split<;>omega
   rw[e1,e2]
   rfl
 ·cases h) cv h caps
noncomputable def spA:FuncId→Option (Cv→Cv):=fun g=>if g=148 then some (BI vT) else
 if g=249 then some (BI vU) else
 none
theorem d8:jS spA:=dZ GS <|
 dZ GT <|
 BK
def fsA:FuncId→Option Fsp:=fun g=>if g=134 then some vS else
 if g=77 then some ul else
 if g=45 then some zp else
 if g=147 then some Es else
 none
theorem lv:aI fsA:=ae GR <|
 ae zo <|
 ae rK <|
 ae KS <|
 BJ
theorem BQ (n:Int) (h:-9223372036854775808≤n∧n≤9223372036854775807):IntKind.i64.wrap n=n:=by rw[IntKind.wrap_i64]; omega
theorem zq (n:Int) (h:0≤n∧n≤18446744073709551615):IntKind.u64.wrap n=n:=by rw[IntKind.wrap_u64]; omega
def vw (h l:Int):Int:=h*18446744073709551616+l
theorem ep (n:Int):vw (hiW n) (loW n)=n:=mR n
def i6 (x:Int):Bool:=decide (-9223372036854775808≤x)&&decide (x≤9223372036854775807)
theorem nU {x:Int}:i6 x=true↔-9223372036854775808≤x∧x≤9223372036854775807:=by simp[i6]
theorem cK {x:Int} (h:okB x=true):i6 x=true:=by rw[cI] at h; rw[nU]; omega
theorem il {x:Int} (h:i6 x=true):wB (ab x)=true:=by rw[nU] at h; rw[bz]; unfold bG ab; split<;>omega
theorem im {n:Int} (h:0≤n∧n<340282366920938463463374607431768211456):wB (hiW n)=true:=bz.2 (zn h.1 h.2)
theorem jg (n:Int):wB (loW n)=true:=bz.2 (mQ n)
def oO:Fsp:=fun _ args k=>match args with
 | [.int .i64 x]=>bif i6 x then k (.ret (.int .u64 (ab x))) else none
 |_=>none
theorem rL {α:Type} (x:Int) (hx:i6 x=true) (k:AOut→Option α):(bif decide (x<0) then k (AOut.ret (AVal.int IntKind.u64 (IntKind.u64.wrap (0-IntKind.u64.wrap x)))) else k (AOut.ret (AVal.int IntKind.u64 (IntKind.u64.wrap x))))=k (.ret (.int .u64 (ab x))):=by
 rw[nU] at hx
 unfold ab
 by_cases h:x<0
 ·rw[decide_eq_true h,if_pos h,cond_true,IntKind.wrap_u64,IntKind.wrap_u64]
  congr 3; omega
 ·rw[decide_eq_false h,if_neg h,cond_false,zq _ (by omega)]
theorem GU (N n:Nat) (α:Type) (x:Int) (k:AOut→Option α):am real tab ((twT fsA spA).env real tab N n) N Tryz.f90 α [iN x] k =
 bif decide (x<0) then k (AOut.ret (AVal.int IntKind.u64 (IntKind.u64.wrap (0-IntKind.u64.wrap x)))) else k (AOut.ret (AVal.int IntKind.u64 (IntKind.u64.wrap x))):=by
 kernel_rfl
theorem KT:FspOk Tryz.prog 90 oO:=aq lv d8 ⟨Tryz.func90,fun _ _=>by kernel_rfl⟩ (by intro α args k; unfold oO; split<;>simp only[ak,Option.bind_some,Option.bind_none]) fun args out hs h=>by
 unfold oO at h
 split at h
 ·rename_i x
  cases hx:i6 x
  ·rw[hx] at h; cases h
  ·rw[hx] at h; exact⟨1,1,(GU 1 1 AOut x some).trans ((rL x hx some).trans h)⟩
 ·cases h
theorem BR (N n:Nat) (α:Type) (x:Int) (k:AOut→Option α):am real tab ((twT fsA spA).env real tab N n) N Tryz.f91 α [iN x] k =
 bif decide (x<0) then k (AOut.ret (AVal.int IntKind.u64 (IntKind.u64.wrap (0-IntKind.u64.wrap x)))) else k (AOut.ret (AVal.int IntKind.u64 (IntKind.u64.wrap x))):=by
 kernel_rfl
theorem GV:FspOk Tryz.prog 91 oO:=aq lv d8 ⟨Tryz.func91,fun _ _=>by kernel_rfl⟩ (by intro α args k; unfold oO; split<;>simp only[ak,Option.bind_some,Option.bind_none]) fun args out hs h=>by
 unfold oO at h
 split at h
 ·rename_i x
  cases hx:i6 x
  ·rw[hx] at h; cases h
  ·rw[hx] at h; exact⟨1,1,(BR 1 1 AOut x some).trans ((rL x hx some).trans h)⟩
 ·cases h
def pC:Fsp:=fun _ args k=>match args with
 | [.int .u64 n,.bool neg]=>bif wB n then (bif fxB n then k (i1 (sg neg n)) else k (mis fxm 4)) else none
 |_=>none
theorem BS {n:Int} (neg:Bool) (h0:0≤n) (h1:n≤70368744177664) {α:Type} (k:AOut→Option α):(bif neg then k (AOut.ret (AVal.int IntKind.i64 (IntKind.i64.wrap (0-IntKind.i64.wrap n)))) else k (AOut.ret (AVal.int IntKind.i64 (IntKind.i64.wrap n))))=k (i1 (sg neg n)):=by
 cases neg
 ·rw[cond_false,BQ _ (by omega)]; rfl
 ·rw[cond_true,BQ n (by omega),BQ _ (by omega),Int.zero_sub]; rfl
theorem zr (N n:Nat) (α:Type) (x:Int) (b:Bool) (k:AOut→Option α):am real tab ((twT fsA spA).env real tab N (n+1)) N Tryz.f133 α [uN x,.bool b] k =
 bif !decide (x≤70368744177664) then k (mis fxm 4) else bif b then k (AOut.ret (AVal.int IntKind.i64 (IntKind.i64.wrap (0-IntKind.i64.wrap x)))) else k (AOut.ret (AVal.int
 IntKind.i64 (IntKind.i64.wrap x))):=by kernel_rfl
theorem BT:FspOk Tryz.prog 133 pC:=aq lv d8 ⟨Tryz.func133,fun _ _=>by kernel_rfl⟩ (by intro α args k; unfold pC; split<;>simp only[ak,Option.bind_some,Option.bind_none]) fun args out hs h=>by
 unfold pC at h
 split at h
 ·rename_i x b
  cases hx:wB x
  ·rw[hx] at h; cases h
  ·rw[hx] at h
   rw[bz] at hx
   refine⟨1,2,(zr 1 1 AOut x b some).trans ?_⟩
   rw[cond_true] at h
   rw[←h]
   unfold fxB
   by_cases hd:x≤70368744177664
   ·rw[decide_eq_true hd,Bool.not_true,cond_false,cond_true,BS b hx.1 hd]
   ·rw[decide_eq_false hd,Bool.not_false,cond_false,cond_true]
 ·cases h
def vV:Fsp:=fun _ args k=>match args with
 | [.ro (.int .i64) xs]=>bif List.all (α:=Int) xs okB then k t0 else k (mis fxm 2)
 |_=>none
theorem BU (N n:Nat) (α:Type) (x:List Int) (k:AOut→Option α):am real tab ((twT fsA spA).env real tab N (n+1)) N Tryz.f73 α [.ro (.int .i64) x] k =
 ah (ag N (fun y:Int × Unit=>bif decide (y.1<(x.length:Int)) then if 0≤y.1∧y.1<(x.length:Int) then bif decide (x.getD y.1.toNat (Int.ofNat 0) ≥
 -70368744177664) then bif !decide (x.getD y.1.toNat (Int.ofNat 0)≤70368744177664) then finL (k (mis fxm 2)) else some (LRes.cont (IntKind.i64.wrap (y.1+1),())) else finL (k
 (mis fxm 2)) else none else some (LRes.brk 0 (y.1,()))) (0,())) fun id _=>if id=0 then k (AOut.ret (AVal.tup [])) else none:=by kernel_rfl
theorem zt {α:Type} (x:List Int) (hl:x.length≤maxLen) (k:AOut→Option α):am real tab ((twT fsA spA).env real tab (x.length+1) 2) (x.length+1) Tryz.f73 α [.ro (.int .i64) x] k=bif x.all okB then k t0 else k (mis fxm 2):=by
 rw[BU]
 generalize hf:(fun y:Int × Unit=>(_:Option (LRes (Int × Unit) α)))=f
 have e:ag (x.length+1) f (0,())=bif (List.range x.length).any (fun i=>!okB (x.getD i 0)) then finL (k (mis fxm 2)) else some (.brk 0 ((x.length:Int),())):=by
  refine ue (f:=f) (fun i:Nat=>((i:Int),())) _ (mL _) (ku _ _) x.length (fun i hi=>?_) ?_
  ·rw[←hf]
   have h1:decide ((i:Int)<(x.length:Int))=true:=decide_eq_true (by omega)
   have h2:IntKind.i64.wrap ((i:Int)+1)=((i+1:Nat):Int):=lu (n:=i+1) (by omega)
   simp only[h1,cond_true,h2,show Int.ofNat 0=0 from rfl,show ((i:Int)).toNat=i from rfl]
   rw[if_pos ⟨by omega,by omega⟩]
   unfold okB
   by_cases a:-70368744177664≤x.getD i 0
   ·rw[decide_eq_true a]
    cases decide (x.getD i 0≤70368744177664)<;>rfl
   ·rw[decide_eq_false a]; rfl
  ·rw[←hf]
   have h1:decide ((x.length:Int)<(x.length:Int))=false:=decide_eq_false (by omega)
   simp only[h1,cond_false]
 rw[e,GL x fun n=>!okB n]
 have:x.any (fun n=>!okB n)=!x.all okB:=by rw[List.not_all_eq_any_not]
 rw[this]
 cases x.all okB
 ·simp only[Bool.not_false,cond_true,cond_false]
  cases k (mis fxm 2)<;>rfl
 ·rfl
theorem GW:FspOk Tryz.prog 73 vV:=aq lv d8 ⟨Tryz.func73,fun _ _=>by kernel_rfl⟩ (by intro α args k; unfold vV; split<;>simp only[ak,Option.bind_some,Option.bind_none]) fun args out hs h=>by
 unfold vV at h
 split at h
 ·rename_i x
  exact⟨_,2,(zt x (hs _ (by simp)).len some).trans h⟩
 ·cases h
def Et:Fsp:=fun _ args k=>match args with
 | [.agg [.int .u64 a,.int .u64 b],.agg [.int .u64 c,.int .u64 d]]=>bif wB a&&wB b&&wB c&&wB d&&decide (vw a b+vw c d<340282366920938463463374607431768211456) then k (.ret (.agg [uN (hiW (vw a b+vw c d)),uN (loW (vw a b+vw c d))])) else none
 |_=>none
theorem GX (N n:Nat) (α:Type) (a b c d:Int) (k:AOut→Option α):am real tab ((twT fsA spA).env real tab N (n+1)) N Tryz.f93 α [.agg [uN a,uN b],.agg [uN c,uN d]] k =
 bif wB b&&wB d&&(decide ((0:Int)≤0)&&decide ((0:Int)≤1)) then bif wB a&&wB c&&(decide (0≤(b+d+0) / 18446744073709551616)&&decide ((b+d+0) /
 18446744073709551616≤1)) then k (AOut.ret (AVal.agg [AVal.int IntKind.u64 ((a+c+(b+d+0) / 18446744073709551616) % 18446744073709551616),AVal.int IntKind.u64 ((b+d+0)
 % 18446744073709551616)])) else none else none:=by kernel_rfl
theorem KU:FspOk Tryz.prog 93 Et:=aq lv d8 ⟨Tryz.func93,fun _ _=>by kernel_rfl⟩ (by intro α args k; unfold Et; split<;>simp only[ak,Option.bind_some,Option.bind_none]) fun args out hs h=>by
 unfold Et at h
 split at h
 ·rename_i a b c d
  cases hx:wB a&&wB b&&wB c&&wB d&&decide (vw a b+vw c d<340282366920938463463374607431768211456)
  ·rw[hx] at h; cases h
  ·rw[hx,cond_true] at h
   refine⟨1,2,(GX 1 1 AOut a b c d some).trans (Eq.trans ?_ h)⟩
   simp only[Bool.and_eq_true,decide_eq_true_eq] at hx
   obtain⟨⟨⟨⟨h1,h2⟩,h3⟩,h4⟩,h5⟩:=hx
   rw[h1,h2,h3,h4]
   rw[bz] at h1 h2 h3 h4
   unfold bG at h1 h2 h3 h4
   unfold vw at h5
   rw[decide_eq_true (show (0:Int)≤(b+d+0) / 18446744073709551616 by omega),decide_eq_true (show (b+d+0) / 18446744073709551616≤1 by omega)]
   have e1:(a+c+(b+d+0) / 18446744073709551616) % 18446744073709551616=hiW (vw a b+vw c d):=by unfold hiW vw; omega
   have e2:(b+d+0) % 18446744073709551616=loW (vw a b+vw c d):=by unfold loW vw; omega
   rw[e1,e2]
   rfl
 ·cases h
def vW:Fsp:=fun _ args k=>match args with
 | [.agg [.int .u64 a,.int .u64 b],.agg [.int .u64 c,.int .u64 d]]=>bif wB a&&wB b&&wB c&&wB d&&decide (vw c d≤vw a b) then k (.ret (.agg [uN (hiW (vw a b-vw c d)),uN (loW (vw a b-vw c d))])) else none
 |_=>none
theorem BV (N n:Nat) (α:Type) (a b c d:Int) (k:AOut→Option α):am real tab ((twT fsA spA).env real tab N (n+1)) N Tryz.f225 α [.agg [uN a,uN b],.agg [uN c,uN d]] k =
 bif wB b&&wB d&&(decide ((0:Int)≤0)&&decide ((0:Int)≤1)) then bif wB a&&wB c&&(decide ((0:Int)≤if b<d+0 then 1 else 0)&&decide ((if b<d+0 then 1 else
 0)≤(1:Int))) then k (AOut.ret (AVal.agg [AVal.int IntKind.u64 ((a-c-if b<d+0 then 1 else 0) % 18446744073709551616),AVal.int IntKind.u64 ((b-d-0) %
 18446744073709551616)])) else none else none:=by kernel_rfl
theorem GY:FspOk Tryz.prog 225 vW:=aq lv d8 ⟨Tryz.func225,fun _ _=>by kernel_rfl⟩ (by intro α args k; unfold vW; split<;>simp only[ak,Option.bind_some,Option.bind_none]) fun args out hs h=>by
 unfold vW at h
 split at h
 ·rename_i a b c d
  cases hx:wB a&&wB b&&wB c&&wB d&&decide (vw c d≤vw a b)
  ·rw[hx] at h; cases h
  ·rw[hx,cond_true] at h
   refine⟨1,2,(BV 1 1 AOut a b c d some).trans (Eq.trans ?_ h)⟩
   simp only[Bool.and_eq_true,decide_eq_true_eq] at hx
   obtain⟨⟨⟨⟨h1,h2⟩,h3⟩,h4⟩,h5⟩:=hx
   rw[h1,h2,h3,h4]
   rw[bz] at h1 h2 h3 h4
   unfold bG at h1 h2 h3 h4
   unfold vw at h5
   have e0:∃z:Int,(if b<d+0 then 1 else 0)=z∧(z=0∧d≤b∨z=1∧b<d):=⟨_,rfl,by split<;>omega⟩
   obtain⟨z,hz,hz'⟩:=e0
   rw[hz,decide_eq_true (show (0:Int)≤z by omega),decide_eq_true (show z≤1 by omega)]
   have e1:(a-c-z) % 18446744073709551616=hiW (vw a b-vw c d):=by unfold hiW vw; omega
   have e2:(b-d-0) % 18446744073709551616=loW (vw a b-vw c d):=by unfold loW vw; omega
   rw[e1,e2]
   rfl
 ·cases h
theorem Rz {a b c d:Int} (hb:bG b) (hd:bG d):orI (rJ a c) (rJ b d)=iY (vw a b) (vw c d):=by
 unfold bG at hb hd
 unfold orI rJ iY vw
 repeat' split
 all_goals omega
def um:Fsp:=fun _ args k=>match args with
 | [.agg [.int .u64 a,.int .u64 b],.agg [.int .u64 c,.int .u64 d]]=>bif wB b&&wB d then k (.ret (.int .i64 (iY (vw a b) (vw c d)))) else none
 |_=>none
theorem zu:FspOk Tryz.prog 45 um where
 enter:=rK.enter
 nat:=by intro α args k; unfold um; split<;>simp only[ak,Option.bind_some,Option.bind_none]
 calls:=fun args out h=>rK.calls args out (by
  unfold um at h
  split at h
  ·rename_i a b c d
   cases hx:wB b&&wB d
   ·rw[hx] at h; cases h
   ·rw[hx] at h; cases h
    simp only[Bool.and_eq_true,bz] at hx
    simp only[zp,Rz hx.1 hx.2]
  ·cases h)
def un (g:Nat):Option Int:=
 if g=127 then some 0 else
 if g=128 then some 1 else
 if g=129 then some 2 else
 if g=130 then some 3 else
 none
def fsB:FuncId→Option Fsp:=fun g=>
 if g=90 then some oO else
 if g=91 then some oO else
 if g=133 then some pC else
 if g=73 then some vV else
 if g=93 then some Et else
 if g=225 then some vW else
 if g=45 then some um else fsA g
theorem BW:aI fsB:=
 ae KT <|
 ae GV <|
 ae BT <|
 ae GW <|
 ae KU <|
 ae GY <|
 ae zu <|
 lv
def gy (how:Int) (neg:Bool) (n d:Int):Int:=bif decide (n / d<18446744073709551616) then rnd how neg n d % 18446744073709551616 else 18446744073709551616
def gz {α:Type} (neg:Bool) (n:Int) (k:AOut→Option α):Option α:=bif fxB n then k (i1 (sg neg n)) else k (mis fxm 4)
def jm {α:Type} (q:Int) (neg:Bool) (k:AOut→Option α):Option α:=bif wB q then gz neg q k else none
theorem kx {α β:Type} (neg:Bool) (n:Int) (k:AOut→Option α) (K:α→Option β):(gz neg n k).bind K=gz neg n fun o=>(k o).bind K:=by unfold gz; rw[ak]
def Eu:Fsp:=fun _ args k=>match args with
 | [.agg [.int .u64 h,.int .u64 l],.int .u64 d,.bool neg,.fn g []]=>
   match un g with
   |some how=>bif wB h&&wB l&&wB d&&decide (0<d) then gz neg (gy how neg (vw h l) d) k else none
   |none=>none
 |_=>none
theorem vZ {α:Type} {q:Int} (neg:Bool) (k:AOut→Option α) (h:0≤q∧q<18446744073709551616):jm q neg k=gz neg q k:=by
 unfold jm
 rw[bz.2 h,cond_true]
theorem Ev {h l d:Int}:bB h l d=vw h l % d:=rfl
theorem KV {how:Int} {neg:Bool} {h l d:Int} (h0:0<d) (hl:bG l) (hd:d≤h) {α:Type} (k:AOut→Option α):gz neg (gy how neg (vw h l) d) k=k (mis fxm 4):=by
 have:¬vw h l / d<18446744073709551616:=by
  have e:18446744073709551616*d≤vw h l:=by unfold vw; unfold bG at hl; omega
  have:=Int.le_ediv_of_mul_le h0 e
  omega
 unfold gy
 rw[decide_eq_false this]
 rfl
theorem rN {how:Int} {neg:Bool} {h l d:Int} (hh:bG h) (hl:bG l) (hd:h<d) {b:Bool} (hb:up1 how neg (bB h l d) d=b):gy how neg (vw h l) d=(fO h l d+bif b then 1 else 0) % 18446744073709551616∧0≤fO h l d∧fO h l d<18446744073709551616:=by
 unfold bG at hh hl
 have h1:vw h l / d<18446744073709551616:=by
  refine Int.ediv_lt_of_lt_mul (by omega) ?_
  unfold vw
  have:(h+1)*18446744073709551616≤d*18446744073709551616:=Int.mul_le_mul_of_nonneg_right (by omega) (by omega)
  rw[Int.mul_comm 18446744073709551616]
  omega
 have h2:0≤vw h l / d:=Int.ediv_nonneg (by unfold vw; omega) (by omega)
 refine⟨?_,h2,h1⟩
 unfold gy rnd
 rw[decide_eq_true h1,cond_true,←Ev,hb]
 rfl
theorem Oz {α:Type} {q:Int} (neg b:Bool) (k:AOut→Option α) (h:0≤q∧q<18446744073709551616):(bif b then jm (IntKind.u64.wrap (q+1)) neg k else jm q neg k)=gz neg ((q+bif b then 1 else 0) % 18446744073709551616) k:=by
 cases b
 ·rw[cond_false,cond_false,vZ _ _ h,Int.add_zero,show q % 18446744073709551616=q by omega]
 ·rw[cond_true,cond_true,IntKind.wrap_u64,vZ _ _ (by omega)]
theorem i7 {α:Type} {h l d:Int} {neg:Bool} {how:Int} (hx:(wB h&&wB l&&wB d&&decide (0<d))=true) (m:Bool) (hm:0<bB h l d→up1 how neg (bB h l d) d=m) (k:AOut→Option α) (M:Option α)
  (hM:M=bif m then jm (IntKind.u64.wrap (fO h l d+1)) neg k else jm (fO h l d) neg k) :
  (bif wB h&&wB l&&wB d then
   bif decide (d≤h) then k (mis fxm 4)
   else
    bif decide (bB h l d>0) then
     bif wB 0&&wB (bB h l d)&&wB 0&&wB (bB h l d)&&decide (vw 0 (bB h l d)+vw 0 (bB h l d)<340282366920938463463374607431768211456) then
      bif wB (loW (vw 0 (bB h l d)+vw 0 (bB h l d)))&&wB d then M
      else none
     else none
    else jm (fO h l d) neg k
  else none)=gz neg (gy how neg (vw h l) d) k:=by
 simp only[Bool.and_eq_true,decide_eq_true_eq] at hx
 obtain⟨⟨⟨h1,h2⟩,h3⟩,h4⟩:=hx
 rw[h1,h2,h3]
 rw[bz] at h1 h2 h3
 simp only[Bool.and_self,cond_true]
 by_cases hd:d≤h
 ·rw[decide_eq_true hd,cond_true,KV h4 h2 hd]
 ·rw[decide_eq_false hd,cond_false]
  have r0:=Int.emod_nonneg (vw h l) (show d≠0 by omega)
  have r1:=Int.emod_lt_of_pos (vw h l) h4
  rw[←Ev] at r0 r1
  by_cases hr:0<bB h l d
  ·have hw:wB (bB h l d)=true:=bz.2 (by unfold bG at *; omega)
   rw[decide_eq_true (show bB h l d>0 from hr),cond_true,hw,bz.2 (show bG 0 by unfold bG; omega),decide_eq_true (show vw 0 (bB h l d)+vw 0 (bB h l d)<340282366920938463463374607431768211456 by unfold vw; unfold bG at h3; omega),jg]
   simp only[Bool.and_self,cond_true,hM]
   obtain⟨e1,e2⟩:=rN (neg:=neg) h1 h2 (by omega) (hm hr)
   rw[Oz _ _ _ e2,e1]
  ·rw[decide_eq_false (show ¬bB h l d>0 from hr),cond_false]
   have hu:up1 how neg (bB h l d) d=false:=by unfold up1; rw[decide_eq_false hr]; rfl
   obtain⟨e1,e2⟩:=rN (neg:=neg) h1 h2 (by omega) hu
   rw[vZ _ _ e2,e1,cond_false,Int.add_zero,show fO h l d % 18446744073709551616=fO h l d by omega]
theorem BX (N n:Nat) (α:Type) (h l d:Int) (neg:Bool) (k:AOut→Option α):am real tab ((twT fsB spA).env real tab N (n+2)) N Tryz.f89 α [.agg [uN h,uN l],uN d,.bool neg,.fn 127 []] k =
 bif wB h&&wB l&&wB d then bif decide (d≤h) then k (mis fxm 4) else bif decide (bB h l d>0) then bif wB 0&&wB (bB h l d)&&wB 0&&wB (bB h l d)&&decide (vw 0
 (bB h l d)+vw 0 (bB h l d)<340282366920938463463374607431768211456) then bif wB (loW (vw 0 (bB h l d)+vw 0 (bB h l d)))&&wB d then jm (fO h l d) neg k else none
 else none else jm (fO h l d) neg k else none:=by kernel_rfl
theorem zw (N n:Nat) (α:Type) (h l d:Int) (neg:Bool) (hx:(wB h&&wB l&&wB d&&decide (0<d))=true) (k:AOut→Option α):am real tab ((twT fsB spA).env real tab N (n+2)) N Tryz.f89 α [.agg [uN h,uN l],uN d,.bool neg,.fn 127 []] k=gz neg (gy 0 neg (vw h l) d) k:=
 (BX N n α h l d neg k).trans (i7 hx (false) (fun hr=>by unfold up1; rw[decide_eq_true hr]; rfl) k _ rfl)
theorem BZ (N n:Nat) (α:Type) (h l d:Int) (neg:Bool) (k:AOut→Option α):am real tab ((twT fsB spA).env real tab N (n+2)) N Tryz.f89 α [.agg [uN h,uN l],uN d,.bool neg,.fn 128 []] k =
 bif wB h&&wB l&&wB d then bif decide (d≤h) then k (mis fxm 4) else bif decide (bB h l d>0) then bif wB 0&&wB (bB h l d)&&wB 0&&wB (bB h l d)&&decide (vw 0
 (bB h l d)+vw 0 (bB h l d)<340282366920938463463374607431768211456) then bif wB (loW (vw 0 (bB h l d)+vw 0 (bB h l d)))&&wB d then bif neg then jm
 (IntKind.u64.wrap (fO h l d+1)) neg k else jm (fO h l d) neg k else none else none else jm (fO h l d) neg k else none:=by kernel_rfl
theorem zx (N n:Nat) (α:Type) (h l d:Int) (neg:Bool) (hx:(wB h&&wB l&&wB d&&decide (0<d))=true) (k:AOut→Option α):am real tab ((twT fsB spA).env real tab N (n+2)) N Tryz.f89 α [.agg [uN h,uN l],uN d,.bool neg,.fn 128 []] k=gz neg (gy 1 neg (vw h l) d) k:=
 (BZ N n α h l d neg k).trans (i7 hx (neg) (fun hr=>by unfold up1; rw[decide_eq_true hr]; rfl) k _ rfl)
theorem B0 (N n:Nat) (α:Type) (h l d:Int) (neg:Bool) (k:AOut→Option α):am real tab ((twT fsB spA).env real tab N (n+2)) N Tryz.f89 α [.agg [uN h,uN l],uN d,.bool neg,.fn 129 []] k =
 bif wB h&&wB l&&wB d then bif decide (d≤h) then k (mis fxm 4) else bif decide (bB h l d>0) then bif wB 0&&wB (bB h l d)&&wB 0&&wB (bB h l d)&&decide (vw 0
 (bB h l d)+vw 0 (bB h l d)<340282366920938463463374607431768211456) then bif wB (loW (vw 0 (bB h l d)+vw 0 (bB h l d)))&&wB d then bif !neg then jm
 (IntKind.u64.wrap (fO h l d+1)) neg k else jm (fO h l d) neg k else none else none else jm (fO h l d) neg k else none:=by kernel_rfl
theorem zy (N n:Nat) (α:Type) (h l d:Int) (neg:Bool) (hx:(wB h&&wB l&&wB d&&decide (0<d))=true) (k:AOut→Option α):am real tab ((twT fsB spA).env real tab N (n+2)) N Tryz.f89 α [.agg [uN h,uN l],uN d,.bool neg,.fn 129 []] k=gz neg (gy 2 neg (vw h l) d) k:=
 (B0 N n α h l d neg k).trans (i7 hx (!neg) (fun hr=>by unfold up1; rw[decide_eq_true hr]; rfl) k _ rfl)
theorem B1 (N n:Nat) (α:Type) (h l d:Int) (neg:Bool) (k:AOut→Option α):am real tab ((twT fsB spA).env real tab N (n+2)) N Tryz.f89 α [.agg [uN h,uN l],uN d,.bool neg,.fn 130 []] k =
 bif wB h&&wB l&&wB d then bif decide (d≤h) then k (mis fxm 4) else bif decide (bB h l d>0) then bif wB 0&&wB (bB h l d)&&wB 0&&wB (bB h l d)&&decide (vw 0
 (bB h l d)+vw 0 (bB h l d)<340282366920938463463374607431768211456) then bif wB (loW (vw 0 (bB h l d)+vw 0 (bB h l d)))&&wB d then bif decide (iY (vw (hiW (vw 0
 (bB h l d)+vw 0 (bB h l d))) (loW (vw 0 (bB h l d)+vw 0 (bB h l d)))) (vw 0 d)≥0) then jm (IntKind.u64.wrap (fO h l d+1)) neg k else jm (fO h l d) neg k else
 none else none else jm (fO h l d) neg k else none:=by kernel_rfl
theorem zA (N n:Nat) (α:Type) (h l d:Int) (neg:Bool) (hx:(wB h&&wB l&&wB d&&decide (0<d))=true) (k:AOut→Option α):am real tab ((twT fsB spA).env real tab N (n+2)) N Tryz.f89 α [.agg [uN h,uN l],uN d,.bool neg,.fn 130 []] k=gz neg (gy 3 neg (vw h l) d) k:=
 (B1 N n α h l d neg k).trans (i7 hx (decide (iY (vw (hiW (vw 0 (bB h l d)+vw 0 (bB h l d))) (loW (vw 0 (bB h l d)+vw 0 (bB h l d)))) (vw 0 d)≥0)) (fun hr=>by
  unfold up1; rw[decide_eq_true hr,ep]
  show decide (d≤bB h l d+bB h l d)=_
  rw[decide_eq_decide]; unfold iY vw; repeat' split
  all_goals omega) k _ rfl)
theorem ky {g:Nat} {how:Int} (h:un g=some how):False
 ∨ (g=127∧how=0)
 ∨ (g=128∧how=1)
 ∨ (g=129∧how=2)
 ∨ (g=130∧how=3)
 := by
 unfold un at h
 repeat' split at h
 all_goals first|(cases h; simp[*]; done)|cases h
theorem KW:FspOk Tryz.prog 89 Eu:=aq BW d8 ⟨Tryz.func89,fun _ _=>by kernel_rfl⟩ (by intro α args k; unfold Eu; split<;>(try split)<;>simp only[ak,kx,Option.bind_some,Option.bind_none]) fun args out hs h=>by
 unfold Eu at h
 split at h
 ·rename_i h1 l d neg g
  split at h
  ·rename_i how hg
   cases hx:wB h1&&wB l&&wB d&&decide (0<d)
   ·rw[hx] at h; cases h
   ·rw[hx,cond_true] at h
    rcases ky hg with hf
     |⟨rfl,rfl⟩
     |⟨rfl,rfl⟩
     |⟨rfl,rfl⟩
     |⟨rfl,rfl⟩
    ·cases hf
    ·exact⟨1,2,(zw 1 0 AOut h1 l d neg hx some).trans h⟩
    ·exact⟨1,2,(zx 1 0 AOut h1 l d neg hx some).trans h⟩
    ·exact⟨1,2,(zy 1 0 AOut h1 l d neg hx some).trans h⟩
    ·exact⟨1,2,(zA 1 0 AOut h1 l d neg hx some).trans h⟩
  ·cases h
 ·cases h
theorem v6 {X Y:Int} (k:Nat) (hX:0≤X∧X<18446744073709551616) (hk:X % (2^k:Nat)=0) (hY:0≤Y∧Y<(2^k:Nat)) (hs:X+Y<18446744073709551616):IntKind.u64.wrap (((BitVec.ofInt 64 X ||| BitVec.ofInt 64 Y).toNat:Nat):Int)=X+Y:=by
 obtain⟨x,rfl⟩:=Int.eq_ofNat_of_zero_le hX.1
 obtain⟨y,rfl⟩:=Int.eq_ofNat_of_zero_le hY.1
 have hy:y<2^k:=by exact_mod_cast hY.2
 have hx:x % 2^k=0:=by exact_mod_cast hk
 have e:x=2^k*(x / 2^k):=by have:=Nat.div_add_mod x (2^k); omega
 have e1:(BitVec.ofInt 64 (x:Int)).toNat=x:=by rw[BitVec.toNat_ofInt]; have:x<18446744073709551616:=by omega
                                               simp; omega
 have e2:(BitVec.ofInt 64 (y:Int)).toNat=y:=by rw[BitVec.toNat_ofInt]; have:y<18446744073709551616:=by omega
                                               simp; omega
 rw[BitVec.toNat_or,e1,e2]
 have e3:x ||| y=x+y:=by
  rw[e,←Nat.two_pow_add_eq_or_of_lt hy]
 rw[e3,zq _ (by omega)]
 omega
theorem i8 {α:Type} {f:Int × Int × Unit→Option (LRes (Int × Int × Unit) α)} (p:Nat→Bool) (K:Nat)
  (hf:∀n k,n % 2^(k+1)=0→n+2^(k+1)≤2^K→p n=true→f ((n:Int),((2^k:Nat):Int),())=some (.cont (((bif p (n+2^k) then n+2^k else n:Nat):Int),((2^k / 2:Nat):Int),())))
  (hend:∀n:Nat,f ((n:Int),0,())=some (.brk 0 ((n:Int),0,()))) :
  ∀(k:Nat) (n:Nat),n % 2^k=0→n+2^k≤2^K→p n=true→∀N,k<N→ag N f ((n:Int),((2^k / 2:Nat):Int),())=some (.brk 0 (((bs p k n:Nat):Int),0,()))
 |0,n,h1,h2,h3,N,hN=>by
  obtain⟨N,rfl⟩:∃M,N=M+1:=⟨N-1,by omega⟩
  have e:(((2^0 / 2:Nat)):Int)=0:=rfl
  rw[e]
  simp only[ag,hend]
  rfl
 |k+1,n,h1,h2,h3,N,hN=>by
  obtain⟨N,rfl⟩:∃M,N=M+1:=⟨N-1,by omega⟩
  have e0:2^(k+1) / 2=2^k:=by rw[Nat.pow_succ]; omega
  have e1:2^(k+1)=2^k+2^k:=by rw[Nat.pow_succ]; omega
  have hd:n % 2^k=0:=by
   have:(n % 2^(k+1)) % 2^k=n % 2^k:=Nat.mod_mod_of_dvd _ ⟨2,by rw[Nat.pow_succ]⟩
   rw[h1] at this
   simpa using this.symm
  have hf':=hf n k h1 h2 h3
  rw[e0]
  simp only[ag,hf',bs]
  cases hp:p (n+2^k)
  ·exact i8 p K hf hend k n hd (by omega) h3 N (by omega)
  ·exact i8 p K hf hend k (n+2^k) (by rw[Nat.add_mod_right]; exact hd) (by omega) hp N (by omega)
def at3 (a b c:Int):Nat→Int
 |0=>a
 |1=>b
 |_=>c
def OA {β:Type} (n:Int) (A:Nat→Option β):Option β:=
 if 0≤n∧n<((3:Nat):Int) then
  bif n==((0:Nat):Int) then A 0 else bif n==((0+1:Nat):Int) then A 1 else bif n==((0+1+1:Nat):Int) then A 2 else none
 else none
def v7 {α:Type} (N:Nat) (r q:Nat→Int) (k:AOut→Option α):Option α:=
 ah
  (ag N
   (fun x:Int × Unit=>
    bif decide (x.1<3) then
     OA x.1 fun i1=>OA x.1 fun i2=>bif r i1 != q i2 then OA x.1 fun i3=>OA x.1 fun i4=>finL (k (b1 (decide (r i3<q i4)))) else some (LRes.cont (IntKind.i64.wrap (x.1+1),()))
    else some (LRes.brk 0 (x.1,())))
   (0,()))
  fun id _=>if id=0 then k (b1 true) else none
set_option maxRecDepth 100000 in
theorem B2 (N n0:Nat) (α:Type) (n x h l:Int) (k:AOut→Option α):am real tab ((twT fsB spA).env real tab N (n0+2)) N Tryz.f248 α [uN n,.agg [uN h,uN l],uN x] k =
 bif wB (IntKind.u64.wrap (n*n))&&wB l then bif wB (IntKind.u64.wrap (n*n))&&wB h then bif wB (hiW (IntKind.u64.wrap (n*n)*h))&&wB (loW (IntKind.u64.wrap (n*n)*h))
 && wB 0&&wB (hiW (IntKind.u64.wrap (n*n)*l))&&decide (vw (hiW (IntKind.u64.wrap (n*n)*h)) (loW (IntKind.u64.wrap (n*n)*h))+vw 0 (hiW (IntKind.u64.wrap (n*n) *
 l))<340282366920938463463374607431768211456) then bif wB x&&wB x then v7 N (at3 (hiW (vw (hiW (IntKind.u64.wrap (n*n)*h)) (loW (IntKind.u64.wrap (n*n)*h))+vw 0
 (hiW (IntKind.u64.wrap (n*n)*l)))) (loW (vw (hiW (IntKind.u64.wrap (n*n)*h)) (loW (IntKind.u64.wrap (n*n)*h))+vw 0 (hiW (IntKind.u64.wrap (n*n)*l)))) (loW
 (IntKind.u64.wrap (n*n)*l))) (at3 ((hiW (x*x)).fdiv (2^min (Int.toNat 32) 64)) (IntKind.u64.wrap (((BitVec.ofInt 64 (IntKind.u64.wrap (hiW (x*x)*2^min (Int.toNat 32)
 64)) ||| BitVec.ofInt 64 ((loW (x*x)).fdiv (2^min (Int.toNat 32) 64))).toNat:Nat):Int)) (IntKind.u64.wrap (loW (x*x)*2^min (Int.toNat 32) 64))) k else none else none
 else none else none:=by kernel_rfl
theorem GZ {α:Type} (N:Nat) (a b c d e f:Int) (k:AOut→Option α):v7 (N+4) (at3 a b c) (at3 d e f) k=k (b1 (bif a != d then decide (a<d) else bif b != e then decide (b<e) else bif c != f then decide (c<f) else true)):=by
 unfold v7
 generalize hf:(fun x:Int × Unit=>(_:Option (LRes (Int × Unit) α)))=F
 have h0:F (0,())=bif a != d then finL (k (b1 (decide (a<d)))) else some (LRes.cont (1,())):=by rw[←hf]; rfl
 have h1:F (1,())=bif b != e then finL (k (b1 (decide (b<e)))) else some (LRes.cont (2,())):=by rw[←hf]; rfl
 have h2:F (2,())=bif c != f then finL (k (b1 (decide (c<f)))) else some (LRes.cont (3,())):=by rw[←hf]; rfl
 have h3:F (3,())=some (LRes.brk 0 (3,())):=by rw[←hf]; rfl
 simp only[ag,h0]
 cases a != d
 ·simp only[cond_false,h1]
  cases b != e
  ·simp only[cond_false,h2]
   cases c != f
   ·simp only[cond_false,h3]
    rfl
   ·simp only[cond_true]
    cases k (b1 (decide (c<f)))<;>rfl
  ·simp only[cond_true]
   cases k (b1 (decide (b<e)))<;>rfl
 ·simp only[cond_true]
  cases k (b1 (decide (a<d)))<;>rfl
theorem RA {a b c d e f:Int} (hb:bG b) (hc:bG c) (he:bG e) (hf:bG f):(bif a != d then decide (a<d) else bif b != e then decide (b<e) else bif c != f then decide (c<f) else true)=decide ((a*18446744073709551616+b)*18446744073709551616+c≤(d*18446744073709551616+e)*18446744073709551616+f):=by
 unfold bG at hb hc he hf
 by_cases h1:a=d
 ·by_cases h2:b=e
  ·by_cases h3:c=f
   ·subst h1; subst h2; subst h3; simp
   ·have:(c != f)=true:=by simp[h3]
    subst h1; subst h2
    simp only[this,bne_self_eq_false,cond_false,cond_true]
    rw[decide_eq_decide]; omega
  ·have:(b != e)=true:=by simp[h2]
   subst h1
   simp only[this,bne_self_eq_false,cond_false,cond_true]
   rw[decide_eq_decide]; omega
 ·have:(a != d)=true:=by simp[h1]
  simp only[this,cond_true]
  rw[decide_eq_decide]; omega
def blB (n h l x:Int):Bool:=(decide (0≤n)&&decide (n≤131072))&&(wB h&&wB l)&&(decide (0≤x)&&decide (x≤70368744177664))&&decide (vw h l<19807040628566084398385987584)
def v8:Fsp:=fun _ args k=>match args with
 | [.int .u64 n,.agg [.int .u64 h,.int .u64 l],.int .u64 x]=>bif blB n h l x then k (b1 (decide (n*n*vw h l≤4294967296*(x*x)))) else none
 |_=>none
theorem PJ {x B:Int} (h0:0≤x) (h1:x≤B):0≤x*x∧x*x≤B*B:=⟨Int.mul_nonneg h0 h0,Int.mul_le_mul h1 h1 h0 (by omega)⟩
theorem jT (a:Int) {b:Int} (hb:0≤b):a.fdiv b=a / b:=Int.fdiv_eq_ediv_of_nonneg a hb
theorem zB (N n0:Nat) (α:Type) {n x h l:Int} (hb:blB n h l x=true) (k:AOut→Option α):am real tab ((twT fsB spA).env real tab (N+4) (n0+2)) (N+4) Tryz.f248 α [uN n,.agg [uN h,uN l],uN x] k=k (b1 (decide (n*n*vw h l≤4294967296*(x*x)))):=by
 rw[B2]
 simp only[blB,Bool.and_eq_true,decide_eq_true_eq,bz] at hb
 obtain⟨⟨⟨⟨n0',n1⟩,hh,hl⟩,x0,x1⟩,hs⟩:=hb
 obtain⟨m0,m1⟩:=PJ n0' n1
 obtain⟨p0,p1⟩:=PJ x0 x1
 rw[zq (n*n) (by omega)]
 have hm:bG (n*n):=by unfold bG; omega
 have hx:bG x:=by unfold bG; omega
 generalize n*n=m at *
 generalize x*x=P at *
 have q1:=rI hm hh
 have q2:=rI hm hl
 have hsm:m*vw h l=m*h*18446744073709551616+m*l:=by unfold vw; rw[Int.mul_add,Int.mul_assoc]
 have hle:m*vw h l≤17179869184*19807040628566084398385987584:=Int.mul_le_mul m1 (by omega) (by unfold vw bG at *; omega) (by omega)
 have hA:m*h+hiW (m*l)<340282366920938463463374607431768211456:=by unfold hiW; omega
 have ev:vw 0 (hiW (m*l))=hiW (m*l):=by unfold vw; omega
 rw[bz.2 hm,bz.2 hh,bz.2 hl,bz.2 hx,im q1,im q2,jg,ep,ev,decide_eq_true hA,show wB 0=true from rfl]
 simp only[Bool.and_self,cond_true]
 rw[GZ]
 have k64:(2:Int)^min (Int.toNat 32) 64=4294967296:=rfl
 have kk:(2^32:Nat)=4294967296:=rfl
 rw[k64,jT _ (by omega),jT _ (by omega)]
 have wq1:=zn p0 (show P<340282366920938463463374607431768211456 by omega)
 have wq2:=mQ P
 have hP:hiW P<4294967296:=by unfold hiW; omega
 unfold bG at wq1 wq2
 rw[zq (hiW P*4294967296) (by omega),v6 32 (by omega) (by omega) (by omega) (by omega)]
 have w3:bG (loW (m*h+hiW (m*l))):=mQ _
 have w4:bG (loW (m*l)):=mQ _
 have w5:bG (hiW P*4294967296+loW P / 4294967296):=by unfold bG; omega
 have w6:bG (IntKind.u64.wrap (loW P*4294967296)):=by rw[IntKind.wrap_u64]; unfold bG; omega
 rw[RA w3 w4 w5 w6]
 have e1:=mR (m*h+hiW (m*l))
 have e2:=mR (m*l)
 have e3:=mR P
 rw[IntKind.wrap_u64,hsm]
 congr 2
 rw[decide_eq_decide]
 omega
theorem G0:FspOk Tryz.prog 248 v8:=aq BW d8 ⟨Tryz.func248,fun _ _=>by kernel_rfl⟩ (by intro α args k; unfold v8; split<;>simp only[ak,Option.bind_some,Option.bind_none]) fun args out hs h=>by
 unfold v8 at h
 split at h
 ·rename_i n h1 l x
  cases hb:blB n h1 l x
  ·rw[hb] at h; cases h
  ·rw[hb,cond_true] at h
   exact⟨4,2,(zB 0 0 AOut hb some).trans h⟩
 ·cases h
def fsC:FuncId→Option Fsp:=fun g=>
 if g=248 then some v8 else
 if g=89 then some Eu else fsB g
theorem nV:aI fsC:=
 ae G0 <|
 ae KW <|
 BW
def i9 (x s:Int) (m:Nat):Bool:=decide ((m:Int)*m*s≤4294967296*(x*x))
theorem KX (x s:Int):shr x s=((bs (i9 x s) 17 0:Nat):Int):=by rw[SV]; rfl
def shB (x h l:Int):Bool:=(decide (0≤x)&&decide (x≤70368744177664))&&(wB h&&wB l)&&(decide (0<vw h l)&&decide (vw h l<19807040628566084398385987584))&&decide (x*x≤vw h l)
noncomputable def pD:Fsp:=fun _ args k=>match args with
 | [.int .u64 x,.agg [.int .u64 h,.int .u64 l]]=>bif shB x h l then k (.ret (.int .u64 (shr x (vw h l)))) else none
 |_=>none
theorem KY {x s:Int} (hs:0≤s) (m n:Nat) (h:n≤m) (hm:i9 x s m=true):i9 x s n=true:=by
 simp only[i9,decide_eq_true_eq] at hm ⊢
 have:(n:Int)*n≤m*m:=Int.mul_le_mul (by omega) (by omega) (by omega) (by omega)
 have:=Int.mul_le_mul_of_nonneg_right this hs
 omega
theorem wa {x s:Int} (hs:0<s) (hx:x*x≤s) (m:Nat) (h:65537≤m):i9 x s m=false:=by
 simp only[i9,decide_eq_false_iff_not,Int.not_le]
 have:(65537:Int)*65537≤m*m:=Int.mul_le_mul (by omega) (by omega) (by omega) (by omega)
 have:=Int.mul_le_mul_of_nonneg_right this (Int.le_of_lt hs)
 omega
theorem zC {x s:Int} (x0:0≤x):i9 x s 0=true:=by
 simp only[i9,decide_eq_true_eq]
 have h1:=Int.mul_nonneg x0 x0
 have h2:((0:Nat):Int)*((0:Nat):Int)*s=0:=by simp
 omega
theorem B3 (N n0:Nat) (α:Type) (x h l:Int) (k:AOut→Option α):am real tab ((twT fsC spA).env real tab N (n0+2)) N Tryz.f223 α [uN x,.agg [uN h,uN l]] k =
 ah (ag N (fun (y:Int × Int × Unit)=>bif decide (y.2.1>0) then bif decide (IntKind.u64.wrap (((BitVec.ofInt 64 y.1 ||| BitVec.ofInt 64 y.2.1).toNat:Nat):Int) ≤
 65536) then bif blB (IntKind.u64.wrap (((BitVec.ofInt 64 y.1 ||| BitVec.ofInt 64 y.2.1).toNat:Nat):Int)) h l x then bif decide (IntKind.u64.wrap (((BitVec.ofInt 64 y.1 |||
 BitVec.ofInt 64 y.2.1).toNat:Nat):Int)*IntKind.u64.wrap (((BitVec.ofInt 64 y.1 ||| BitVec.ofInt 64 y.2.1).toNat:Nat):Int)*vw h l≤4294967296*(x*x)) then some
 (LRes.cont (IntKind.u64.wrap (((BitVec.ofInt 64 y.1 ||| BitVec.ofInt 64 y.2.1).toNat:Nat):Int),y.2.1.fdiv (2^min (Int.toNat 1) 64),())) else some (LRes.cont (y.1,y.2.1.fdiv
 (2^min (Int.toNat 1) 64),())) else none else some (LRes.cont (y.1,y.2.1.fdiv (2^min (Int.toNat 1) 64),())) else some (LRes.brk 0 (y.1,y.2.1,()))) (0,65536,())) fun id y
 => if id=0 then k (AOut.ret (AVal.int IntKind.u64 y.1)) else none:=by kernel_rfl
theorem zD (N n0:Nat) (α:Type) {x h l:Int} (hb:shB x h l=true) (k:AOut→Option α):am real tab ((twT fsC spA).env real tab (N+18) (n0+2)) (N+18) Tryz.f223 α [uN x,.agg [uN h,uN l]] k=k (.ret (.int .u64 (shr x (vw h l)))):=by
 rw[B3]
 simp only[shB,Bool.and_eq_true,decide_eq_true_eq] at hb
 obtain⟨⟨⟨⟨x0,x1⟩,hh,hl⟩,hs0,hs⟩,hx⟩:=hb
 have hbl:∀m:Nat,m≤131072→blB (m:Int) h l x=true:=fun m hm=>by
  simp only[blB,hh,hl,decide_eq_true x0,decide_eq_true x1,decide_eq_true hs,decide_eq_true (show (0:Int)≤m by omega),decide_eq_true (show (m:Int)≤131072 by omega),Bool.and_self]
 have ht:=wa hs0 hx
 generalize vw h l=s at *
 generalize hf:(fun y:Int × Int × Unit=>(_:Option (LRes (Int × Int × Unit) α)))=f
 have e:=i8 (f:=f) (i9 x s) 17 (fun n k h1 h2 h3=>?_) (fun n=>?_) 17 0 rfl (by omega) (zC x0) (N+18) (by omega)
 ·have e':ag (N+18) f (0,65536,())=some (.brk 0 (((bs (i9 x s) 17 0:Nat):Int),0,())):=e
  rw[e',KX]
  rfl
 ·rw[←hf]
  have p17:(2:Nat)^17=131072:=rfl
  have hk:2^(k+1)=2^k+2^k:=by rw[Nat.pow_succ]; omega
  have hpos:0<2^k:=Nat.two_pow_pos k
  have hor:IntKind.u64.wrap (((BitVec.ofInt 64 (n:Int) ||| BitVec.ofInt 64 ((2^k:Nat):Int)).toNat:Nat):Int)=((n+2^k:Nat):Int):=by
   rw[v6 (k+1) (by omega) (by omega) (by omega) (by omega)]; omega
  have hsh:(((2^k:Nat):Int)).fdiv (2^min (Int.toNat 1) 64)=((2^k / 2:Nat):Int):=by
   rw[show (2:Int)^min (Int.toNat 1) 64=2 from rfl,jT _ (by omega)]; omega
  simp only[hor,hsh,decide_eq_true (show ((2^k:Nat):Int)>0 by omega),cond_true,hbl (n+2^k) (by omega)]
  have hp:i9 x s (n+2^k)=decide (((n+2^k:Nat):Int)*((n+2^k:Nat):Int)*s≤4294967296*(x*x)):=rfl
  rw[←hp]
  by_cases hd:((n+2^k:Nat):Int)≤65536
  ·rw[decide_eq_true hd,cond_true]
   cases i9 x s (n+2^k)<;>rfl
  ·rw[decide_eq_false hd,cond_false,ht (n+2^k) (by omega)]
   rfl
 ·rw[←hf]
  rfl
theorem B4:FspOk Tryz.prog 223 pD:=aq nV d8 ⟨Tryz.func223,fun _ _=>by kernel_rfl⟩ (by intro α args k; unfold pD; split<;>simp only[ak,Option.bind_some,Option.bind_none]) fun args out hs h=>by
 unfold pD at h
 split at h
 ·rename_i x h1 l
  cases hb:shB x h1 l
  ·rw[hb] at h; cases h
  ·rw[hb,cond_true] at h
   exact⟨18,2,(zD 0 0 AOut hb some).trans h⟩
 ·cases h
theorem OB (a b:Int):List.all [a,b] okB=(okB a&&okB b):=by simp
theorem OC (a b c d:Int):List.all [a,b,c,d] okB=(okB a&&okB b&&okB c&&okB d):=by simp[Bool.and_assoc]
theorem TI (a b c:Int):List.all [a,b,c] okB=(okB a&&okB b&&okB c):=by simp[Bool.and_assoc]
theorem S5 (a:Int):List.all [a] okB=okB a:=by simp
theorem cn {a b:Int} (ha:okB a=true) (hb:okB b=true):0≤ab a*ab b∧ab a*ab b≤4951760157141521099596496896:=
 ⟨Int.mul_nonneg (b9 a) (b9 b),Int.mul_le_mul (Ep ha) (Ep hb) (b9 b) (by omega)⟩
def pE:Fsp:=fun _ args k=>match args with
 | [.agg [.int .i64 x,.int .i64 y]]=>bif okB x&&okB y then k (.ret (.agg [uN (hiW (sq2 x y)),uN (loW (sq2 x y))])) else k (mis fxm 2)
 |_=>none
theorem zE (N n:Nat) (α:Type) (a b:Int) (k:AOut→Option α):am real tab ((twT fsC spA).env real tab N (n+2)) N Tryz.f44 α [sN a b] k =
 bif [a,b].all okB then bif i6 a then bif i6 a then bif wB (ab a)&&wB (ab a) then bif i6 b then bif i6 b then bif wB (ab b)&&wB (ab b) then bif wB (hiW (ab a*ab a))&&wB (loW
 (ab a*ab a))&&wB (hiW (ab b*ab b))&&wB (loW (ab b*ab b))&&decide (vw (hiW (ab a*ab a)) (loW (ab a*ab a))+vw (hiW (ab b*ab b)) (loW (ab b*ab b)) <
 340282366920938463463374607431768211456) then k (AOut.ret (AVal.agg [AVal.int IntKind.u64 (hiW (vw (hiW (ab a*ab a)) (loW (ab a*ab a))+vw (hiW (ab b*ab b)) (loW (ab b*ab
 b)))),AVal.int IntKind.u64 (loW (vw (hiW (ab a*ab a)) (loW (ab a*ab a))+vw (hiW (ab b*ab b)) (loW (ab b*ab b))))])) else none else none else none else none else none else
 none else none else k (mis fxm 2):=by kernel_rfl
theorem B5:FspOk Tryz.prog 44 pE:=aq nV d8 ⟨Tryz.func44,fun _ _=>by kernel_rfl⟩ (by intro α args k; unfold pE; split<;>simp only[ak,Option.bind_some,Option.bind_none]) fun args out hs h=>by
 unfold pE at h
 split at h
 ·rename_i x y
  refine⟨8,2,(zE 8 0 AOut x y some).trans (Eq.trans ?_ h)⟩
  rw[OB]
  cases hx:okB x
  ·rfl
  ·cases hy:okB y
   ·rfl
   ·have a1:=cn hx hx
    have a2:=cn hy hy
    simp only[cK hx,cK hy,il (cK hx),il (cK hy),im (show 0≤ab x*ab x∧ab x*ab x<_ from ⟨a1.1,by omega⟩),im (show 0≤ab y*ab y∧ab y*ab y<_ from ⟨a2.1,by omega⟩),jg,ep,Bool.and_self,cond_true,decide_eq_true (show ab x*ab x+ab y*ab y<340282366920938463463374607431768211456 by omega)]
    rfl
 ·cases h
def OD:Fsp:=fun _ args k=>match args with
 | [.int .i64 a,.int .i64 b]=>bif okB a&&okB b then (bif fxB (ab (a+b)) then k (i1 (a+b)) else k (mis fxm 4)) else k (mis fxm 2)
 |_=>none
def OE:Fsp:=fun _ args k=>match args with
 | [.int .i64 a,.int .i64 b]=>bif okB a&&okB b then (bif fxB (ab (a-b)) then k (i1 (a-b)) else k (mis fxm 4)) else k (mis fxm 2)
 |_=>none
theorem Ew {α:Type} {z:Int} (hz:i6 z=true) (k:AOut→Option α) :
  (bif i6 (IntKind.i64.wrap z) then
   bif wB (ab (IntKind.i64.wrap z)) then
    bif fxB (ab (IntKind.i64.wrap z)) then k (AOut.ret (AVal.int IntKind.i64 (sg (decide (IntKind.i64.wrap z<0)) (ab (IntKind.i64.wrap z)))))
    else k (mis fxm 4)
   else none
  else none)=bif fxB (ab z) then k (i1 z) else k (mis fxm 4):=by
 have e:=BQ z (nU.1 hz)
 rw[e,hz,il hz,cond_true,cond_true]
 have:=ST z
 unfold ngB at this
 rw[this]
 rfl
theorem KZ (N n:Nat) (α:Type) (a b:Int) (k:AOut→Option α):am real tab ((twT fsC spA).env real tab N (n+2)) N Tryz.f230 α [iN a,iN b] k =
 bif [a,b].all okB then bif i6 (IntKind.i64.wrap (a+b)) then bif wB (ab (IntKind.i64.wrap (a+b))) then bif fxB (ab (IntKind.i64.wrap (a+b))) then k (AOut.ret (AVal.int
 IntKind.i64 (sg (decide (IntKind.i64.wrap (a+b)<0)) (ab (IntKind.i64.wrap (a+b)))))) else k (mis fxm 4) else none else none else k (mis fxm 2):=by kernel_rfl
theorem K5 (N n:Nat) (α:Type) (a b:Int) (k:AOut→Option α):am real tab ((twT fsC spA).env real tab N (n+2)) N Tryz.f217 α [iN a,iN b] k =
 bif [a,b].all okB then bif i6 (IntKind.i64.wrap (a-b)) then bif wB (ab (IntKind.i64.wrap (a-b))) then bif fxB (ab (IntKind.i64.wrap (a-b))) then k (AOut.ret (AVal.int
 IntKind.i64 (sg (decide (IntKind.i64.wrap (a-b)<0)) (ab (IntKind.i64.wrap (a-b)))))) else k (mis fxm 4) else none else none else k (mis fxm 2):=by kernel_rfl
theorem OG:FspOk Tryz.prog 230 OD:=aq nV d8 ⟨Tryz.func230,fun _ _=>by kernel_rfl⟩ (by intro α args k; unfold OD; split<;>simp only[ak,Option.bind_some,Option.bind_none]) fun args out hs h=>by
 unfold OD at h
 split at h
 ·rename_i x y
  refine⟨8,2,(KZ 8 0 AOut x y some).trans (Eq.trans ?_ h)⟩
  rw[OB]
  cases hx:okB x
  ·rfl
  ·cases hy:okB y
   ·rfl
   ·rw[Bool.and_self,cond_true,cond_true,Ew]
    rw[cI] at hx hy; rw[nU]; omega
 ·cases h
theorem OH:FspOk Tryz.prog 217 OE:=aq nV d8 ⟨Tryz.func217,fun _ _=>by kernel_rfl⟩ (by intro α args k; unfold OE; split<;>simp only[ak,Option.bind_some,Option.bind_none]) fun args out hs h=>by
 unfold OE at h
 split at h
 ·rename_i x y
  refine⟨8,2,(K5 8 0 AOut x y some).trans (Eq.trans ?_ h)⟩
  rw[OB]
  cases hx:okB x
  ·rfl
  ·cases hy:okB y
   ·rfl
   ·rw[Bool.and_self,cond_true,cond_true,Ew]
    rw[cI] at hx hy; rw[nU]; omega
 ·cases h
def prP (a b how:Int):Int:=gy how (xorB (ngB a) (ngB b)) (ab a*ab b) 65536
def OI:Fsp:=fun _ args k=>match args with
 | [.int .i64 a,.int .i64 b,.fn g []]=>
   match un g with
   |some how=>bif okB a&&okB b then gz (xorB (ngB a) (ngB b)) (prP a b how) k else k (mis fxm 2)
   |none=>none
 |_=>none
def kz {α:Type} (a b how:Int) (k:AOut→Option α):Option α:=
 bif [a,b].all okB then
  bif i6 a then
   bif i6 b then
    bif wB (ab a)&&wB (ab b) then
     bif wB (hiW (ab a*ab b))&&wB (loW (ab a*ab b))&&wB 65536&&decide ((0:Int)<65536) then
      gz (!(decide (a<0)==decide (b<0))) (gy how (!(decide (a<0)==decide (b<0))) (vw (hiW (ab a*ab b)) (loW (ab a*ab b))) 65536) k
     else none
    else none
   else none
  else none
 else k (mis fxm 2)
theorem OJ {α:Type} (a b how:Int) (k:AOut→Option α):kz a b how k=bif okB a&&okB b then gz (xorB (ngB a) (ngB b)) (prP a b how) k else k (mis fxm 2):=by
 unfold kz
 rw[OB]
 cases hx:okB a
 ·rfl
 ·cases hy:okB b
  ·rfl
  ·have a1:=cn hx hy
   simp only[cK hx,cK hy,il (cK hx),il (cK hy),im (show 0≤ab a*ab b∧ab a*ab b<_ from ⟨a1.1,by omega⟩),jg,ep,Bool.and_self,cond_true,show wB 65536=true from rfl,show decide ((0:Int)<65536)=true from rfl]
   rfl
theorem G1 (N n:Nat) (α:Type) (a b:Int) (k:AOut→Option α):am real tab ((twT fsC spA).env real tab N (n+2)) N Tryz.f229 α [iN a,iN b,.fn 127 []] k=kz a b 0 k:=by kernel_rfl
theorem G2 (N n:Nat) (α:Type) (a b:Int) (k:AOut→Option α):am real tab ((twT fsC spA).env real tab N (n+2)) N Tryz.f229 α [iN a,iN b,.fn 128 []] k=kz a b 1 k:=by kernel_rfl
theorem G3 (N n:Nat) (α:Type) (a b:Int) (k:AOut→Option α):am real tab ((twT fsC spA).env real tab N (n+2)) N Tryz.f229 α [iN a,iN b,.fn 129 []] k=kz a b 2 k:=by kernel_rfl
theorem G4 (N n:Nat) (α:Type) (a b:Int) (k:AOut→Option α):am real tab ((twT fsC spA).env real tab N (n+2)) N Tryz.f229 α [iN a,iN b,.fn 130 []] k=kz a b 3 k:=by kernel_rfl
theorem OK:FspOk Tryz.prog 229 OI:=aq nV d8 ⟨Tryz.func229,fun _ _=>by kernel_rfl⟩ (by intro α args k; unfold OI; split<;>(try split)<;>simp only[ak,kx,Option.bind_some,Option.bind_none]) fun args out hs h=>by
 unfold OI at h
 split at h
 ·rename_i a b g
  split at h
  ·rename_i how hg
   rw[←OJ] at h
   rcases ky hg with hf
     |⟨rfl,rfl⟩
     |⟨rfl,rfl⟩
     |⟨rfl,rfl⟩
     |⟨rfl,rfl⟩
   ·cases hf
   ·exact⟨8,2,(G1 8 0 AOut a b some).trans h⟩
   ·exact⟨8,2,(G2 8 0 AOut a b some).trans h⟩
   ·exact⟨8,2,(G3 8 0 AOut a b some).trans h⟩
   ·exact⟨8,2,(G4 8 0 AOut a b some).trans h⟩
  ·cases h
 ·cases h
structure Exe (n D:Nat) (w w':World):Prop where
 os:w'.os=w.os
 tape:w'.tape=w.tape
 output:w'.output=w.output
 size:w.heap.size≤w'.heap.size
 block:∀k,k<n→k≠D→k≠D+1→w'.heap[k]?=w.heap[k]?
theorem Exe.of {n D:Nat} {w w':World} (h:Below n w w'):Exe n D w w':=⟨h.os,h.tape,h.output,h.size,fun k hk _ _=>h.block k hk⟩
theorem Exe.trans {n D:Nat} {a b c:World} (h:Exe n D a b) (k:Exe n D b c):Exe n D a c:=
 ⟨k.os.trans h.os,k.tape.trans h.tape,k.output.trans h.output,Nat.le_trans h.size k.size,fun i hi hd he=>(k.block i hi hd he).trans (h.block i hi hd he)⟩
theorem Exe.set {n D:Nat} {w:World} (v:Value):Exe n D w (w.setCell ⟨D,0,none⟩ v):=
 ⟨rfl,rfl,rfl,by simp[World.setCell],fun k _ hd _=>Below.heap_setCell _ _ _ _ hd⟩
theorem Exe.set1 {n D:Nat} {w:World} (v:Value):Exe n D w (w.setCell ⟨D+1,0,none⟩ v):=
 ⟨rfl,rfl,rfl,by simp[World.setCell],fun k _ _ hd=>Below.heap_setCell _ _ _ _ hd⟩
theorem Exe.drew {n D:Nat} {w w':World} (h:Exe n D w w'):Exe n D w { w' with drawn:=w'.drawn+1 }:=⟨h.os,h.tape,h.output,h.size,h.block⟩
theorem dH {w w1:World} {c1 c2:Array Value} {t1 t2:TypeId} (h1:w1.heap[w.heap.size]?=((w.alloc (.cells c1 t1)).alloc (.cells c2 t2)).heap[w.heap.size]?) (h2:w1.heap[w.heap.size+1]?=((w.alloc (.cells c1 t1)).alloc (.cells c2 t2)).heap[w.heap.size+1]?) :
  (∀i,w1.cell? ⟨w.heap.size,i,none⟩=c1[i]?)∧(∀i,w1.cell? ⟨w.heap.size+1,i,none⟩=c2[i]?)∧(∀i,w1.frozen? ⟨w.heap.size,i,none⟩=false)∧(∀i,w1.frozen? ⟨w.heap.size+1,i,none⟩=false):=by
 refine⟨fun i=>?_,fun i=>?_,fun i=>?_,fun i=>?_⟩
 ·rw[World.cell?_of_block (w':=w1) (a:=⟨w.heap.size,i,none⟩) h1]; simp[go_sem]
 ·rw[World.cell?_of_block (w':=w1) (a:=⟨w.heap.size+1,i,none⟩) h2]; simp[go_sem]
 ·rw[World.frozen?_of_block (w':=w1) (a:=⟨w.heap.size,i,none⟩) h1]; simp[go_sem]
 ·rw[World.frozen?_of_block (w':=w1) (a:=⟨w.heap.size+1,i,none⟩) h2]; simp[go_sem]
theorem aW {w:World} {a b:Addr} (v:Value) (h:a≠b):(w.setCell a v).cell? b=w.cell? b:=World.cell?_setCell_other w a b v h
def cO (e:Int):List PanicEntry:=[{ v:=.iface 178 (.agg #[.int .i64 e]),recovered:=false }]
theorem d9 (c:Int) (w:World):(Instr.typeAssert (.iface 178 (.agg #[.int .i64 c])) 20 178 true).run Tryz.prog w=.ok (.tuple #[.agg #[.int .i64 c],.bool true]) w:=by kernel_rfl
theorem ea (w:World):(Instr.typeAssert .nilIface 20 178 true).run Tryz.prog w=.ok (.tuple #[.agg #[.int .i64 0],.bool false]) w:=by kernel_rfl
theorem rP (b:Nat) (x y c:Int) (w:World) (hp:w.cell? ⟨b,0,none⟩=some (.int .i64 x)) (hq:w.cell? ⟨b+1,0,none⟩=some (.int .i64 y)) (fp:w.frozen? ⟨b,0,none⟩=false) (fq:w.frozen? ⟨b+1,0,none⟩=false) (hqb:b+1<w.heap.size) :
  CallsD Tryz.prog 126 #[.pointer (some ⟨b,0,none⟩),.pointer (some ⟨b+1,0,none⟩)] (.panicking (cO c)) w fun e u' w'=>
   e=.returned (.tuple #[])∧u'=.panicking [{ v:=.iface 178 (.agg #[.int .i64 c]),recovered:=true }]∧w'.cell? ⟨b,0,none⟩=some (.int .i64 0)∧w'.cell? ⟨b+1,0,none⟩=some (.int .i64 c)∧Exe w.heap.size b w w':=by
 refine callsD_of_wpS Tryz.func126 rfl fun c₀ cs hu=>?_
 apply wpS_seq
 apply wpS_region
 simp[wpOpsS,go_sem,recoverD,hu,cO,Tryz.ntmps126,Exit.thenS,Array.replicate,List.replicate]
 refine wpS_of_wp ?_
 clear hu
 have hta:=fun w=>d9 c w
 have ha:∀o,Below w.heap.size w (w.alloc o):=fun o=>(Below.refl _ _).alloc (Nat.le_refl _) o
 have hp':∀o,(w.alloc o).cell? ⟨b,0,none⟩=some (.int .i64 x):=fun o=>((ha o).cell (p:=⟨b,0,none⟩) (by simp; omega)).trans hp
 have hq':∀o,(w.alloc o).cell? ⟨b+1,0,none⟩=some (.int .i64 y):=fun o=>((ha o).cell (p:=⟨b+1,0,none⟩) (by simp; omega)).trans hq
 have fp':∀o,(w.alloc o).frozen? ⟨b,0,none⟩=false:=fun o=>((ha o).frozen (p:=⟨b,0,none⟩) (by simp; omega)).trans fp
 have fq':∀o,(w.alloc o).frozen? ⟨b+1,0,none⟩=false:=fun o=>((ha o).frozen (p:=⟨b+1,0,none⟩) (by simp; omega)).trans fq
 clear ha
 go_wp2
 go_region
 all_goals
  go_big_unhide
  simp[bodyPostS,results,Tryz.results126,go_sem]
  refine⟨bf _ (hp' _),bf (u:=.int .i64 y) _ ((aW _ (by simp)).trans (hq' _)),?_⟩
  exact (((Exe.of ((Below.refl w.heap.size w).alloc (Nat.le_refl _) _)).trans (.set _)).trans (.set1 _)).drew
theorem sR (b:Nat) (w:World) :
  CallsD Tryz.prog 126 #[.pointer (some ⟨b,0,none⟩),.pointer (some ⟨b+1,0,none⟩)] .returning w fun e u' w'=>
   e=.returned (.tuple #[])∧u'=.returning∧Below w.heap.size w w':=by
 refine callsD_of_wpS Tryz.func126 rfl fun c₀ cs hu=>?_
 apply wpS_seq
 apply wpS_region
 simp[wpOpsS,go_sem,recoverD,hu,Tryz.ntmps126,Exit.thenS,Array.replicate,List.replicate]
 refine wpS_of_wp ?_
 have hta:=fun w=>ea w
 go_wp2
 all_goals
  simp[bodyPostS,results,Tryz.results126,go_sem]
  exact⟨.returning,by cases c₀; simp_all,rfl,(Below.refl _ _).alloc (Nat.le_refl _) _⟩
set_option maxHeartbeats 1000000 in
theorem B6 (K:FuncId) (caps:Array Value) (v:Int) (Q:World→Prop) (he:∀w,(callFunc K caps).run Tryz.prog w=.ok (.enter K caps) w) (w:World)
  (h:∀w1,Below w.heap.size w w1→w.heap.size+1<w1.heap.size→Calls Tryz.prog K caps w1 fun e w'=>e=.returned (.int .i64 v)∧w'.heap[w.heap.size]?=w1.heap[w.heap.size]?∧w'.heap[w.heap.size+1]?=w1.heap[w.heap.size+1]?∧w1.heap.size≤w'.heap.size∧Q w') :
  Calls Tryz.prog 71 #[.func (.func K) #[] caps] w fun e w'=>e=.returned (.tuple #[.int .i64 v,.int .i64 0])∧∃w2,Q w2∧Exe w2.heap.size w.heap.size w2 w':=by
 have hmf:∀(fn:Fn) (first cap:Array Value) (w:World),(Instr.makeFunc fn first cap).run Tryz.prog w=.ok (.func fn first cap) w:=fun _ _ _ _=>rfl
 have HH:=fG h
 have hcall:∀w,(callFunc K caps).run Tryz.prog w=.ok (.enter K caps) w:=he
 clear h he
 go_enter_defers Tryz.func71,Tryz.ntmps71
 go_wp2_with (go_at_fn K; refine (HH.out _ (((Below.refl _ _).alloc (Nat.le_refl _) _).alloc (by simp) _) (by simp)).mono ?_; rintro e w1 ⟨rfl,hb1,hb2,hz1,hq⟩; obtain⟨hc1,hc2,hf1,hf2⟩:=dH hb1 hb2; have hz:w.heap.size+1<w1.heap.size:=(by simp at hz1; omega); have hd1:=hc1 0; have hd2:=hc2 0)
 refine leaves_cons (f:=126) (args:=#[.pointer (some ⟨w.heap.size,0,none⟩),.pointer (some ⟨w.heap.size+1,0,none⟩)]) (by simp) (by simp[go_sem]) ?_
 have hs:((w1.setCell ⟨w.heap.size,0,none⟩ (.int .i64 v)).setCell ⟨w.heap.size+1,0,none⟩ (.int .i64 0)).heap.size=w1.heap.size:=by simp[World.setCell]
 refine (sR w.heap.size _).mono ?_
 rintro e u' w2 ⟨rfl,rfl,hb2⟩
 rw[hs] at hb2
 have g1:w2.cell? ⟨w.heap.size,0,none⟩=some (.int .i64 v):=by
  rw[hb2.cell (p:=⟨w.heap.size,0,none⟩) (by show w.heap.size<_; omega),aW _ (by simp)]
  exact bf _ hd1
 have g2:w2.cell? ⟨w.heap.size+1,0,none⟩=some (.int .i64 0):=by
  rw[hb2.cell (p:=⟨w.heap.size+1,0,none⟩) hz]
  exact bf (u:=.int .i64 0) _ ((aW _ (by simp)).trans hd2)
 clear HH hcall hmf hc1 hc2 hf1 hf2 hd1 hd2
 simp[Leaves,settle,results,Tryz.results71,go_sem,g1,g2]
 exact⟨w1,hq,((Exe.set _).trans (.set1 _)).trans (Exe.of hb2)⟩
set_option maxHeartbeats 1000000 in
theorem zF (K:FuncId) (caps:Array Value) (c:Int) (Q:World→Prop) (he:∀w,(callFunc K caps).run Tryz.prog w=.ok (.enter K caps) w) (w:World)
  (h:∀w1,Below w.heap.size w w1→w.heap.size+1<w1.heap.size→Calls Tryz.prog K caps w1 fun e w'=>e=.panicked (cO c)∧w'.heap[w.heap.size]?=w1.heap[w.heap.size]?∧w'.heap[w.heap.size+1]?=w1.heap[w.heap.size+1]?∧w1.heap.size≤w'.heap.size∧Q w') :
  Calls Tryz.prog 71 #[.func (.func K) #[] caps] w fun e w'=>e=.returned (.tuple #[.int .i64 0,.int .i64 c])∧∃w2,Q w2∧Exe w2.heap.size w.heap.size w2 w':=by
 have hmf:∀(fn:Fn) (first cap:Array Value) (w:World),(Instr.makeFunc fn first cap).run Tryz.prog w=.ok (.func fn first cap) w:=fun _ _ _ _=>rfl
 have HH:=fG h
 have hcall:∀w,(callFunc K caps).run Tryz.prog w=.ok (.enter K caps) w:=he
 clear h he
 go_enter_defers Tryz.func71,Tryz.ntmps71
 go_wp2_with (go_at_fn K; refine (HH.out _ (((Below.refl _ _).alloc (Nat.le_refl _) _).alloc (by simp) _) (by simp)).mono ?_; rintro e w1 ⟨rfl,hb1,hb2,hz1,hq⟩; obtain⟨hc1,hc2,hf1,hf2⟩:=dH hb1 hb2; have hz:w.heap.size+1<w1.heap.size:=(by simp at hz1; omega))
 refine leaves_cons (f:=126) (args:=#[.pointer (some ⟨w.heap.size,0,none⟩),.pointer (some ⟨w.heap.size+1,0,none⟩)]) (by simp) (by simp[go_sem]) ?_
 refine (rP w.heap.size 0 0 c _ (hc1 0) (hc2 0) (hf1 0) (hf2 0) hz).mono ?_
 rintro e u' w2 ⟨rfl,rfl,g1,g2,hb2⟩
 clear HH hcall hmf hc1 hc2 hf1 hf2
 simp[Leaves,settle,results,Tryz.results71,go_sem,g1,g2]
 exact⟨w1,hq,hb2⟩
theorem K6 {K K2:Nat→Prop} {h g} {w w':World} {D:Nat} (s:St K2 h g w) (hM:∀b,g.M b→b≠D∧b≠D+1) (hK:∀b,K b→(b≠D∧b≠D+1)∧K2 b) (e:Exe w.heap.size D w w'):Le K h g w h g w' where
 len:=Nat.le_refl _
 here:=fun _ h=>h
 m:=fun _ h=>h
 new:=fun _ h=>.inl h
 mw:=fun b hb=>e.block b (s.low b hb) (hM b hb).1 (hM b hb).2
 k:=fun b hb=>e.block b (s.klow b (hK b hb).2) (hK b hb).1.1 (hK b hb).1.2
 box:=fun _ wr cs' _ h=>⟨wr,cs',h,rfl,rfl⟩
 row:=fun _ wr _ _ xs' _ h=>⟨wr,xs',h,fun _=>rfl,rfl⟩
 lp:=fun _ st pend _ _ _ _ _ h=>⟨st,pend,h,rfl⟩
 lockb:=fun _ _ h=>h
 lockr:=fun _ _ _ _ h=>h
 os:=e.os
 tape:=e.tape
 output:=e.output
 size:=e.size
theorem RB {K K2:Nat→Prop} {h g} {w w':World} {D:Nat} (s:St K2 h g w) (hD:K2 D∧K2 (D+1)) (hM:∀b,g.M b→b≠D∧b≠D+1) (hK:∀b,K b→(b≠D∧b≠D+1)∧K2 b) (e:Exe w.heap.size D w w'):St K h g w' where
 blk:=fun i b hb=>(s.blk i b hb).mono (K6 s hM hK e) rfl fun n hd hn=>by
  obtain⟨h1,h2,h3⟩:=s.sep i n ⟨b,hb,hd⟩ hn
  exact e.block n h3 (fun e'=>h1 (by rw[e']; exact hD.1)) fun e'=>h1 (by rw[e']; exact hD.2)
 inj:=s.inj
 sep:=fun i n ai hn=>by
  obtain⟨h1,h2,h3⟩:=s.sep i n ai hn
  exact⟨fun hk=>h1 (hK n hk).2,h2,Nat.lt_of_lt_of_le h3 e.size⟩
 low:=fun b hb=>Nat.lt_of_lt_of_le (s.low b hb) e.size
 klow:=fun b hb=>Nat.lt_of_lt_of_le (s.klow b (hK b hb).2) e.size
def gP (mis:TypeId) (fit:AVal→Bool) (zero:AVal) (cv:Cv):Cv:=fun _ v args h k=>
 match v,args with
 |.fn _ [],[.fn f caps]=>cv _ (.fn f caps) [] h fun x u h1=>
  match x with
  |.normal=>if fit u=true then k .normal (.tup [u,.int .i64 0]) h1 else none
  |.pan (.ifc t (.agg [.int .i64 e]))=>if t=mis then k .normal (.tup [zero,.int .i64 e]) h1 else none
  |_=>none
 |_,_=>none
structure Tried2Ok (P:Program) (f:FuncId) (mis:TypeId) (fit:AVal→Bool) (zf:AVal→Value) (zero:AVal) (zv:Value):Prop where
 shape:∀h g w u z,fit u=true→Rep h g w u z→z=zf u
 rep:∀h g w u,fit u=true→Rep h g w u (zf u)
 repz:∀h g w,Rep h g w zero zv
 enter:∀args w,(callFunc f args).run P w=.ok (.enter f args) w
 ok:∀(K:FuncId) (caps:Array Value) (u:AVal) (Q:World→Prop),fit u=true→(∀w,(callFunc K caps).run P w=.ok (.enter K caps) w)→∀(w:World),
  (∀w1,Below w.heap.size w w1→w.heap.size+1<w1.heap.size→Calls P K caps w1 fun e w'=>e=.returned (zf u)∧w'.heap[w.heap.size]?=w1.heap[w.heap.size]?∧w'.heap[w.heap.size+1]?=w1.heap[w.heap.size+1]?∧w1.heap.size≤w'.heap.size∧Q w') →
  Calls P f #[.func (.func K) #[] caps] w fun e w'=>e=.returned (.tuple #[zf u,.int .i64 0])∧∃w2,Q w2∧Exe w2.heap.size w.heap.size w2 w'
 err:∀(K:FuncId) (caps:Array Value) (c:Int) (Q:World→Prop),(∀w,(callFunc K caps).run P w=.ok (.enter K caps) w)→∀(w:World),
  (∀w1,Below w.heap.size w w1→w.heap.size+1<w1.heap.size→Calls P K caps w1 fun e w'=>e=.panicked [{ v:=.iface mis (.agg #[.int .i64 c]),recovered:=false }]∧w'.heap[w.heap.size]?=w1.heap[w.heap.size]?∧w'.heap[w.heap.size+1]?=w1.heap[w.heap.size+1]?∧w1.heap.size≤w'.heap.size∧Q w') →
  Calls P f #[.func (.func K) #[] caps] w fun e w'=>e=.returned (.tuple #[zv,.int .i64 c])∧∃w2,Q w2∧Exe w2.heap.size w.heap.size w2 w'
theorem io {P:Program} {f:FuncId} {mis:TypeId} {fit:AVal→Bool} {zf:AVal→Value} {zero:AVal} {zv:Value} (ht:Tried2Ok P f mis fit zf zero zv) (cv:Cv) (hcv:CvOk P cv) (caps0:List AVal):CvAt P (gP mis fit zero cv) (.fn f caps0) where
 nat:=fun α args h k=>by
  unfold gP
  split
  ·rename_i f' fk caps heq
   refine (hcv.nat _ (.fn fk caps) [] h _).trans (Eq.trans ?_ (congrArg (fun z:Option (AExit × AVal × List ABlk)=>z.bind fun p=>k p.1 p.2.1 p.2.2) (hcv.nat _ (.fn fk caps) [] h _).symm))
   cases cv _ (.fn fk caps) [] h aB with
   |none=>rfl
   |some p=>
    obtain⟨x,u,h1⟩:=p
    simp only[Option.bind_some]
    split
    ·split<;>rfl
    ·split<;>rfl
    ·rfl
  ·rfl
 ok:=fun args h x u h1 hk K g w fv cargs s hfv hl hr=>by
  unfold gP at hk
  split at hk
  ·rename_i f' fk caps heq
   cases heq
   rw[hcv.nat] at hk
   obtain⟨carr,rfl,hcl⟩:=rC hfv
   have hc0:carr=#[]:=Array.eq_empty_of_size_eq_zero hcl.symm
   subst hc0
   obtain⟨l⟩:=cargs
   match l,hl with
   | [z],_=>
     have hz:=hr 0 _ z rfl rfl
     obtain⟨karr,rfl,hkl⟩:=rC hz
     -- the call below
     have below:∀x0 u0,cv _ (.fn fk caps) [] h aB=some (x0,u0,h1)→∀w1,Below w.heap.size w w1→w.heap.size+1<w1.heap.size →
       (∀w,(callFunc fk karr).run P w=.ok (.enter fk karr) w)∧Calls P fk karr w1 (cM (fun b=>K b∨b=w.heap.size∨b=w.heap.size+1) h g w1 h1 x0 u0):=fun x0 u0 hc w1 hb hlt=>by
      have s1:=s.below hb g.M (fun _ h=>h) (fun _ h=>.inl h) fun b hb'=>Nat.lt_of_lt_of_le (s.low b hb') hb.size
      have l1:=dC s hb g.M (fun _ h=>h) (fun _ h=>.inl h)
      have s2:St (fun b=>K b∨b=w.heap.size∨b=w.heap.size+1) h g w1:={
       blk:=s1.blk
       inj:=s1.inj
       sep:=fun i b ha hn=>by
        obtain⟨a1,a2,a3⟩:=s1.sep i b ha hn
        obtain⟨_,_,a4⟩:=s.sep i b ha hn
        exact⟨fun hk=>hk.elim a1 fun e=>by omega,a2,a3⟩
       low:=s1.low
       klow:=fun b hb'=>hb'.elim (s1.klow b) fun e=>by omega }
      rcases hcv.ok (.fn fk caps) [] h x0 u0 h1 hc _ g w1 (.func (.func fk) #[] karr) #[] s2 (hz.mono l1) rfl (fun j c z hc=>by simp at hc) with ⟨f2,c2,he,hen,hcall⟩|⟨_,_,_,_,_,he,_⟩|⟨_,_,_,_,⟨z,hz,_⟩,_⟩
      ·cases he
       simp only[Array.empty_append] at hen hcall
       exact⟨hen,hcall⟩
      ·cases he
      ·simp at hz
     have hen:∀x0 u0,cv _ (.fn fk caps) [] h aB=some (x0,u0,h1)→∀w,(callFunc fk karr).run P w=.ok (.enter fk karr) w:=fun x0 u0 hc=>
      (below x0 u0 hc ((w.alloc (.cells #[] 0)).alloc (.cells #[] 0)) (((Below.refl _ _).alloc (Nat.le_refl _) _).alloc (by simp) _) (by simp)).1
     let Q:World→Prop:=fun w2=>∃g',St (fun b=>K b∨b=w.heap.size∨b=w.heap.size+1) h1 g' w2∧Le K h g w h1 g' w2∧∀b,g'.M b→b≠w.heap.size∧b≠w.heap.size+1
     have mkQ:∀w1 w2 g',Below w.heap.size w w1→St (fun b=>K b∨b=w.heap.size∨b=w.heap.size+1) h1 g' w2→Le (fun b=>K b∨b=w.heap.size∨b=w.heap.size+1) h g w1 h1 g' w2→Q w2:=fun w1 w2 g' hb a1 a2=>
      ⟨g',a1,(dC s hb g.M (fun _ h=>h) (fun _ h=>.inl h)).trans (a2.less fun b hb=>.inl hb),fun b hb'=>(a2.new b hb').elim (fun h=>by have:=s.low b h; omega) fun h=>⟨fun e=>h (.inr (.inl e)),fun e=>h (.inr (.inr e))⟩⟩
     have fin:∀(n:Int) (u:AVal) (z:Value) w2 w',(∀h g w,Rep h g w u z)→Q w2→Exe w2.heap.size w.heap.size w2 w'→cM K h g w h1 .normal (.tup [u,.int .i64 n]) (.returned (.tuple #[z,.int .i64 n])) w':=fun n u z w2 w' hz ⟨g',a1,a2,a3⟩ e=>by
      have hK:∀b,K b→(b≠w.heap.size∧b≠w.heap.size+1)∧(K b∨b=w.heap.size∨b=w.heap.size+1):=fun b hb=>⟨by have:=s.klow b hb; omega,.inl hb⟩
      refine⟨g',RB a1 ⟨.inr (.inl rfl),.inr (.inr rfl)⟩ a3 hK e,a2.trans (K6 a1 a3 hK e),_,rfl,.tup _ _ rfl fun j c x hc hx=>?_⟩
      match j with
      |0=>cases hc; cases hx; exact hz _ _ _
      |1=>cases hc; cases hx; exact .int _ _
      |j+2=>cases hc
     refine .inl ⟨f,#[],rfl,fun w=>ht.enter _ w,?_⟩
     show Calls P f #[.func (.func fk) #[] karr] w _
     cases hc:cv _ (.fn fk caps) [] h aB with
     |none=>rw[hc] at hk; cases hk
     |some p=>
      obtain⟨x0,u0,h0⟩:=p
      rw[hc] at hk
      simp only[Option.bind_some] at hk
      split at hk
      ·split at hk
       ·rename_i hfit
        cases hk
        refine (ht.ok fk karr u0 Q hfit (hen _ _ hc) w fun w1 hb hlt=>((below _ _ hc w1 hb hlt).2).mono ?_).mono ?_
        ·rintro e w' ⟨g',a1,a2,y,rfl,hy⟩
         have:=ht.shape _ _ _ _ _ hfit hy
         subst this
         exact⟨rfl,a2.k _ (.inr (.inl rfl)),a2.k _ (.inr (.inr rfl)),a2.size,mkQ w1 w' g' hb a1 a2⟩
        ·rintro e w' ⟨rfl,w2,hq,hex⟩
         exact fin 0 u0 _ w2 w' (fun h g w=>ht.rep h g w u0 hfit) hq hex
       ·cases hk
      ·rename_i t ee
       split at hk
       ·rename_i ht'
        subst ht'
        cases hk
        refine (ht.err fk karr ee Q (hen _ _ hc) w fun w1 hb hlt=>((below _ _ hc w1 hb hlt).2).mono ?_).mono ?_
        ·rintro e w' ⟨g',a1,a2,y,rfl,hy⟩
         cases hy with
         |ifc _ _ y hy=>
          cases hy with
          |agg _ arr hl' hr'=>
           have hsz:arr.size=1:=hl'.symm
           have e0:=bq (hr' 0 _ arr[0] rfl (by simp))
           have:arr=#[.int .i64 ee]:=by
            obtain⟨l⟩:=arr
            match l,hsz with
            | [q],_=>simp at e0; rw[e0]
           subst this
           exact⟨rfl,a2.k _ (.inr (.inl rfl)),a2.k _ (.inr (.inr rfl)),a2.size,mkQ w1 w' g' hb a1 a2⟩
        ·rintro e w' ⟨rfl,w2,hq,hex⟩
         exact fin ee zero _ w2 w' ht.repz hq hex
       ·cases hk
      ·cases hk
  ·cases hk
def sS:AVal→Bool
 |.int .i64 _=>true
 |_=>false
def S6:AVal→Value
 |.int k n=>.int k n
 |_=>.int .i64 0
theorem sT:Tried2Ok Tryz.prog 71 178 sS S6 (.int .i64 0) (.int .i64 0) where
 shape:=fun h g w u z hu hr=>by
  unfold sS at hu
  split at hu
  ·exact bq hr
  ·cases hu
 rep:=fun h g w u hu=>by
  unfold sS at hu
  split at hu
  ·exact .int _ _
  ·cases hu
 repz:=fun h g w=>.int _ _
 enter:=fun args w=>by kernel_rfl
 ok:=fun K caps u Q hu he w h=>by
  unfold sS at hu
  split at hu
  ·exact B6 K caps _ Q he w h
  ·cases hu
 err:=fun K caps c Q he w h=>zF K caps c Q he w h
theorem rQ (b:Nat) (x:Bool) (y c:Int) (w:World) (hp:w.cell? ⟨b,0,none⟩=some (.bool x)) (hq:w.cell? ⟨b+1,0,none⟩=some (.int .i64 y)) (fp:w.frozen? ⟨b,0,none⟩=false) (fq:w.frozen? ⟨b+1,0,none⟩=false) (hqb:b+1<w.heap.size) :
  CallsD Tryz.prog 246 #[.pointer (some ⟨b,0,none⟩),.pointer (some ⟨b+1,0,none⟩)] (.panicking (cO c)) w fun e u' w'=>
   e=.returned (.tuple #[])∧u'=.panicking [{ v:=.iface 178 (.agg #[.int .i64 c]),recovered:=true }]∧w'.cell? ⟨b,0,none⟩=some (.bool false)∧w'.cell? ⟨b+1,0,none⟩=some (.int .i64 c)∧Exe w.heap.size b w w':=by
 refine callsD_of_wpS Tryz.func246 rfl fun c₀ cs hu=>?_
 apply wpS_seq
 apply wpS_region
 simp[wpOpsS,go_sem,recoverD,hu,cO,Tryz.ntmps246,Exit.thenS,Array.replicate,List.replicate]
 refine wpS_of_wp ?_
 clear hu
 have hta:=fun w=>d9 c w
 have ha:∀o,Below w.heap.size w (w.alloc o):=fun o=>(Below.refl _ _).alloc (Nat.le_refl _) o
 have hp':∀o,(w.alloc o).cell? ⟨b,0,none⟩=some (.bool x):=fun o=>((ha o).cell (p:=⟨b,0,none⟩) (by simp; omega)).trans hp
 have hq':∀o,(w.alloc o).cell? ⟨b+1,0,none⟩=some (.int .i64 y):=fun o=>((ha o).cell (p:=⟨b+1,0,none⟩) (by simp; omega)).trans hq
 have fp':∀o,(w.alloc o).frozen? ⟨b,0,none⟩=false:=fun o=>((ha o).frozen (p:=⟨b,0,none⟩) (by simp; omega)).trans fp
 have fq':∀o,(w.alloc o).frozen? ⟨b+1,0,none⟩=false:=fun o=>((ha o).frozen (p:=⟨b+1,0,none⟩) (by simp; omega)).trans fq
 clear ha
 go_wp2
 go_region
 all_goals
  go_big_unhide
  simp[bodyPostS,results,Tryz.results246,go_sem]
  refine⟨bf _ (hp' _),bf (u:=.int .i64 y) _ ((aW _ (by simp)).trans (hq' _)),?_⟩
  exact (((Exe.of ((Below.refl w.heap.size w).alloc (Nat.le_refl _) _)).trans (.set _)).trans (.set1 _)).drew
theorem sU (b:Nat) (w:World) :
  CallsD Tryz.prog 246 #[.pointer (some ⟨b,0,none⟩),.pointer (some ⟨b+1,0,none⟩)] .returning w fun e u' w'=>
   e=.returned (.tuple #[])∧u'=.returning∧Below w.heap.size w w':=by
 refine callsD_of_wpS Tryz.func246 rfl fun c₀ cs hu=>?_
 apply wpS_seq
 apply wpS_region
 simp[wpOpsS,go_sem,recoverD,hu,Tryz.ntmps246,Exit.thenS,Array.replicate,List.replicate]
 refine wpS_of_wp ?_
 have hta:=fun w=>ea w
 go_wp2
 all_goals
  simp[bodyPostS,results,Tryz.results246,go_sem]
  exact⟨.returning,by cases c₀; simp_all,rfl,(Below.refl _ _).alloc (Nat.le_refl _) _⟩
set_option maxHeartbeats 1000000 in
theorem B7 (K:FuncId) (caps:Array Value) (v:Bool) (Q:World→Prop) (he:∀w,(callFunc K caps).run Tryz.prog w=.ok (.enter K caps) w) (w:World)
  (h:∀w1,Below w.heap.size w w1→w.heap.size+1<w1.heap.size→Calls Tryz.prog K caps w1 fun e w'=>e=.returned (.bool v)∧w'.heap[w.heap.size]?=w1.heap[w.heap.size]?∧w'.heap[w.heap.size+1]?=w1.heap[w.heap.size+1]?∧w1.heap.size≤w'.heap.size∧Q w') :
  Calls Tryz.prog 218 #[.func (.func K) #[] caps] w fun e w'=>e=.returned (.tuple #[.bool v,.int .i64 0])∧∃w2,Q w2∧Exe w2.heap.size w.heap.size w2 w':=by
 have hmf:∀(fn:Fn) (first cap:Array Value) (w:World),(Instr.makeFunc fn first cap).run Tryz.prog w=.ok (.func fn first cap) w:=fun _ _ _ _=>rfl
 have HH:=fG h
 have hcall:∀w,(callFunc K caps).run Tryz.prog w=.ok (.enter K caps) w:=he
 clear h he
 go_enter_defers Tryz.func218,Tryz.ntmps218
 go_wp2_with (go_at_fn K; refine (HH.out _ (((Below.refl _ _).alloc (Nat.le_refl _) _).alloc (by simp) _) (by simp)).mono ?_; rintro e w1 ⟨rfl,hb1,hb2,hz1,hq⟩; obtain⟨hc1,hc2,hf1,hf2⟩:=dH hb1 hb2; have hz:w.heap.size+1<w1.heap.size:=(by simp at hz1; omega); have hd1:=hc1 0; have hd2:=hc2 0)
 refine leaves_cons (f:=246) (args:=#[.pointer (some ⟨w.heap.size,0,none⟩),.pointer (some ⟨w.heap.size+1,0,none⟩)]) (by simp) (by simp[go_sem]) ?_
 have hs:((w1.setCell ⟨w.heap.size,0,none⟩ (.bool v)).setCell ⟨w.heap.size+1,0,none⟩ (.int .i64 0)).heap.size=w1.heap.size:=by simp[World.setCell]
 refine (sU w.heap.size _).mono ?_
 rintro e u' w2 ⟨rfl,rfl,hb2⟩
 rw[hs] at hb2
 have g1:w2.cell? ⟨w.heap.size,0,none⟩=some (.bool v):=by
  rw[hb2.cell (p:=⟨w.heap.size,0,none⟩) (by show w.heap.size<_; omega),aW _ (by simp)]
  exact bf _ hd1
 have g2:w2.cell? ⟨w.heap.size+1,0,none⟩=some (.int .i64 0):=by
  rw[hb2.cell (p:=⟨w.heap.size+1,0,none⟩) hz]
  exact bf (u:=.int .i64 0) _ ((aW _ (by simp)).trans hd2)
 clear HH hcall hmf hc1 hc2 hf1 hf2 hd1 hd2
 simp[Leaves,settle,results,Tryz.results218,go_sem,g1,g2]
 exact⟨w1,hq,((Exe.set _).trans (.set1 _)).trans (Exe.of hb2)⟩
set_option maxHeartbeats 1000000 in
theorem zG (K:FuncId) (caps:Array Value) (c:Int) (Q:World→Prop) (he:∀w,(callFunc K caps).run Tryz.prog w=.ok (.enter K caps) w) (w:World)
  (h:∀w1,Below w.heap.size w w1→w.heap.size+1<w1.heap.size→Calls Tryz.prog K caps w1 fun e w'=>e=.panicked (cO c)∧w'.heap[w.heap.size]?=w1.heap[w.heap.size]?∧w'.heap[w.heap.size+1]?=w1.heap[w.heap.size+1]?∧w1.heap.size≤w'.heap.size∧Q w') :
  Calls Tryz.prog 218 #[.func (.func K) #[] caps] w fun e w'=>e=.returned (.tuple #[.bool false,.int .i64 c])∧∃w2,Q w2∧Exe w2.heap.size w.heap.size w2 w':=by
 have hmf:∀(fn:Fn) (first cap:Array Value) (w:World),(Instr.makeFunc fn first cap).run Tryz.prog w=.ok (.func fn first cap) w:=fun _ _ _ _=>rfl
 have HH:=fG h
 have hcall:∀w,(callFunc K caps).run Tryz.prog w=.ok (.enter K caps) w:=he
 clear h he
 go_enter_defers Tryz.func218,Tryz.ntmps218
 go_wp2_with (go_at_fn K; refine (HH.out _ (((Below.refl _ _).alloc (Nat.le_refl _) _).alloc (by simp) _) (by simp)).mono ?_; rintro e w1 ⟨rfl,hb1,hb2,hz1,hq⟩; obtain⟨hc1,hc2,hf1,hf2⟩:=dH hb1 hb2; have hz:w.heap.size+1<w1.heap.size:=(by simp at hz1; omega))
 refine leaves_cons (f:=246) (args:=#[.pointer (some ⟨w.heap.size,0,none⟩),.pointer (some ⟨w.heap.size+1,0,none⟩)]) (by simp) (by simp[go_sem]) ?_
 refine (rQ w.heap.size false 0 c _ (hc1 0) (hc2 0) (hf1 0) (hf2 0) hz).mono ?_
 rintro e u' w2 ⟨rfl,rfl,g1,g2,hb2⟩
 clear HH hcall hmf hc1 hc2 hf1 hf2
 simp[Leaves,settle,results,Tryz.results218,go_sem,g1,g2]
 exact⟨w1,hq,hb2⟩
def zH:AVal→Bool
 |.bool _=>true
 |_=>false
def S7:AVal→Value
 |.bool b=>.bool b
 |_=>.bool false
theorem sV:Tried2Ok Tryz.prog 218 178 zH S7 (.bool false) (.bool false) where
 shape:=fun h g w u z hu hr=>by
  unfold zH at hu
  split at hu
  ·exact ct hr
  ·cases hu
 rep:=fun h g w u hu=>by
  unfold zH at hu
  split at hu
  ·exact .bool _
  ·cases hu
 repz:=fun h g w=>.bool _
 enter:=fun args w=>by kernel_rfl
 ok:=fun K caps u Q hu he w h=>by
  unfold zH at hu
  split at hu
  ·exact B7 K caps _ Q he w h
  ·cases hu
 err:=fun K caps c Q he w h=>zG K caps c Q he w h
theorem Exe.setO {n D:Nat} {w:World} (o:Nat) (v:Value):Exe n D w (w.setCell ⟨D,o,none⟩ v):=
 ⟨rfl,rfl,rfl,by simp[World.setCell],fun k _ hd _=>Below.heap_setCell _ _ _ _ hd⟩
theorem rR (b:Nat) (x x2 y c:Int) (w:World) (hp:w.cell? ⟨b,0,none⟩=some (.int .i64 x)) (hp2:w.cell? ⟨b,1,none⟩=some (.int .i64 x2)) (hq:w.cell? ⟨b+1,0,none⟩=some (.int .i64 y)) (fp:w.frozen? ⟨b,0,none⟩=false) (fp2:w.frozen? ⟨b,1,none⟩=false) (fq:w.frozen? ⟨b+1,0,none⟩=false) (hqb:b+1<w.heap.size) :
  CallsD Tryz.prog 247 #[.pointer (some ⟨b,0,none⟩),.pointer (some ⟨b+1,0,none⟩)] (.panicking (cO c)) w fun e u' w'=>
   e=.returned (.tuple #[])∧u'=.panicking [{ v:=.iface 178 (.agg #[.int .i64 c]),recovered:=true }]∧w'.cell? ⟨b,0,none⟩=some (.int .i64 0)∧w'.cell? ⟨b,1,none⟩=some (.int .i64 0)∧w'.cell? ⟨b+1,0,none⟩=some (.int .i64 c)∧Exe w.heap.size b w w':=by
 refine callsD_of_wpS Tryz.func247 rfl fun c₀ cs hu=>?_
 apply wpS_seq
 apply wpS_region
 simp[wpOpsS,go_sem,recoverD,hu,cO,Tryz.ntmps247,Exit.thenS,Array.replicate,List.replicate]
 refine wpS_of_wp ?_
 clear hu
 have hta:=fun w=>d9 c w
 have ha:∀o o',Below w.heap.size w ((w.alloc o).alloc o'):=fun o o'=>((Below.refl _ _).alloc (Nat.le_refl _) o).alloc (by simp) o'
 have hp':∀o o',((w.alloc o).alloc o').cell? ⟨b,0,none⟩=some (.int .i64 x):=fun o o'=>((ha o o').cell (p:=⟨b,0,none⟩) (by simp; omega)).trans hp
 have hp2':∀o o',((w.alloc o).alloc o').cell? ⟨b,1,none⟩=some (.int .i64 x2):=fun o o'=>((ha o o').cell (p:=⟨b,1,none⟩) (by simp; omega)).trans hp2
 have hq':∀o o',((w.alloc o).alloc o').cell? ⟨b+1,0,none⟩=some (.int .i64 y):=fun o o'=>((ha o o').cell (p:=⟨b+1,0,none⟩) (by simp; omega)).trans hq
 have fp':∀o o',((w.alloc o).alloc o').frozen? ⟨b,0,none⟩=false:=fun o o'=>((ha o o').frozen (p:=⟨b,0,none⟩) (by simp; omega)).trans fp
 have fp2':∀o o',((w.alloc o).alloc o').frozen? ⟨b,1,none⟩=false:=fun o o'=>((ha o o').frozen (p:=⟨b,1,none⟩) (by simp; omega)).trans fp2
 have fq':∀o o',((w.alloc o).alloc o').frozen? ⟨b+1,0,none⟩=false:=fun o o'=>((ha o o').frozen (p:=⟨b+1,0,none⟩) (by simp; omega)).trans fq
 clear ha
 go_wp2
 go_region
 all_goals
  go_big_unhide
  simp[bodyPostS,results,Tryz.results247,go_sem]
  refine⟨bf _ (hp' _ _),bf (u:=.int .i64 x2) _ ((aW _ (by simp)).trans (hp2' _ _)),bf (u:=.int .i64 y) _ ((aW _ (by simp)).trans ((aW _ (by simp)).trans (hq' _ _))),?_⟩
  exact ((((Exe.of (((Below.refl w.heap.size w).alloc (Nat.le_refl _) _).alloc (by simp) _)).trans (.setO 0 _)).trans (.setO 1 _)).trans (.set1 _)).drew
theorem sW (b:Nat) (w:World) :
  CallsD Tryz.prog 247 #[.pointer (some ⟨b,0,none⟩),.pointer (some ⟨b+1,0,none⟩)] .returning w fun e u' w'=>
   e=.returned (.tuple #[])∧u'=.returning∧Below w.heap.size w w':=by
 refine callsD_of_wpS Tryz.func247 rfl fun c₀ cs hu=>?_
 apply wpS_seq
 apply wpS_region
 simp[wpOpsS,go_sem,recoverD,hu,Tryz.ntmps247,Exit.thenS,Array.replicate,List.replicate]
 refine wpS_of_wp ?_
 have hta:=fun w=>ea w
 go_wp2
 all_goals
  simp[bodyPostS,results,Tryz.results247,go_sem]
  exact⟨.returning,by cases c₀; simp_all,rfl,(Below.refl _ _).alloc (Nat.le_refl _) _⟩
set_option maxHeartbeats 1000000 in
theorem B8 (K:FuncId) (caps:Array Value) (v v2:Int) (Q:World→Prop) (he:∀w,(callFunc K caps).run Tryz.prog w=.ok (.enter K caps) w) (w:World)
  (h:∀w1,Below w.heap.size w w1→w.heap.size+1<w1.heap.size→Calls Tryz.prog K caps w1 fun e w'=>e=.returned (.agg #[.int .i64 v,.int .i64 v2])∧w'.heap[w.heap.size]?=w1.heap[w.heap.size]?∧w'.heap[w.heap.size+1]?=w1.heap[w.heap.size+1]?∧w1.heap.size≤w'.heap.size∧Q w') :
  Calls Tryz.prog 220 #[.func (.func K) #[] caps] w fun e w'=>e=.returned (.tuple #[.agg #[.int .i64 v,.int .i64 v2],.int .i64 0])∧∃w2,Q w2∧Exe w2.heap.size w.heap.size w2 w':=by
 have hmf:∀(fn:Fn) (first cap:Array Value) (w:World),(Instr.makeFunc fn first cap).run Tryz.prog w=.ok (.func fn first cap) w:=fun _ _ _ _=>rfl
 have HH:=fG h
 have hcall:∀w,(callFunc K caps).run Tryz.prog w=.ok (.enter K caps) w:=he
 clear h he
 go_enter_defers Tryz.func220,Tryz.ntmps220
 go_wp2_with (go_at_fn K; refine (HH.out _ (((Below.refl _ _).alloc (Nat.le_refl _) _).alloc (by simp) _) (by simp)).mono ?_; rintro e w1 ⟨rfl,hb1,hb2,hz1,hq⟩; obtain⟨hc1,hc2,hf1,hf2⟩:=dH hb1 hb2; have hz:w.heap.size+1<w1.heap.size:=(by simp at hz1; omega); have hd1:=hc1 0; have hd3:=hc1 1; have hd2:=hc2 0)
 refine leaves_cons (f:=247) (args:=#[.pointer (some ⟨w.heap.size,0,none⟩),.pointer (some ⟨w.heap.size+1,0,none⟩)]) (by simp) (by simp[go_sem]) ?_
 have hs:(((w1.setCell ⟨w.heap.size,0,none⟩ (.int .i64 v)).setCell ⟨w.heap.size,1,none⟩ (.int .i64 v2)).setCell ⟨w.heap.size+1,0,none⟩ (.int .i64 0)).heap.size=w1.heap.size:=by simp[World.setCell]
 refine (sW w.heap.size _).mono ?_
 rintro e u' w2 ⟨rfl,rfl,hb2⟩
 rw[hs] at hb2
 have g1:w2.cell? ⟨w.heap.size,0,none⟩=some (.int .i64 v):=by
  rw[hb2.cell (p:=⟨w.heap.size,0,none⟩) (by show w.heap.size<_; omega),aW _ (by simp),aW _ (by simp)]
  exact bf _ hd1
 have g3:w2.cell? ⟨w.heap.size,1,none⟩=some (.int .i64 v2):=by
  rw[hb2.cell (p:=⟨w.heap.size,1,none⟩) (by show w.heap.size<_; omega),aW _ (by simp)]
  exact bf (u:=.int .i64 0) _ ((aW _ (by simp)).trans hd3)
 have g2:w2.cell? ⟨w.heap.size+1,0,none⟩=some (.int .i64 0):=by
  rw[hb2.cell (p:=⟨w.heap.size+1,0,none⟩) hz]
  exact bf (u:=.int .i64 0) _ ((aW _ (by simp)).trans ((aW _ (by simp)).trans hd2))
 clear HH hcall hmf hc1 hc2 hf1 hf2 hd1 hd2 hd3
 simp[Leaves,settle,results,Tryz.results220,go_sem,g1,g2,g3]
 exact⟨w1,hq,(((Exe.setO 0 _).trans (.setO 1 _)).trans (.set1 _)).trans (Exe.of hb2)⟩
set_option maxHeartbeats 1000000 in
theorem zI (K:FuncId) (caps:Array Value) (c:Int) (Q:World→Prop) (he:∀w,(callFunc K caps).run Tryz.prog w=.ok (.enter K caps) w) (w:World)
  (h:∀w1,Below w.heap.size w w1→w.heap.size+1<w1.heap.size→Calls Tryz.prog K caps w1 fun e w'=>e=.panicked (cO c)∧w'.heap[w.heap.size]?=w1.heap[w.heap.size]?∧w'.heap[w.heap.size+1]?=w1.heap[w.heap.size+1]?∧w1.heap.size≤w'.heap.size∧Q w') :
  Calls Tryz.prog 220 #[.func (.func K) #[] caps] w fun e w'=>e=.returned (.tuple #[.agg #[.int .i64 0,.int .i64 0],.int .i64 c])∧∃w2,Q w2∧Exe w2.heap.size w.heap.size w2 w':=by
 have hmf:∀(fn:Fn) (first cap:Array Value) (w:World),(Instr.makeFunc fn first cap).run Tryz.prog w=.ok (.func fn first cap) w:=fun _ _ _ _=>rfl
 have HH:=fG h
 have hcall:∀w,(callFunc K caps).run Tryz.prog w=.ok (.enter K caps) w:=he
 clear h he
 go_enter_defers Tryz.func220,Tryz.ntmps220
 go_wp2_with (go_at_fn K; refine (HH.out _ (((Below.refl _ _).alloc (Nat.le_refl _) _).alloc (by simp) _) (by simp)).mono ?_; rintro e w1 ⟨rfl,hb1,hb2,hz1,hq⟩; obtain⟨hc1,hc2,hf1,hf2⟩:=dH hb1 hb2; have hz:w.heap.size+1<w1.heap.size:=(by simp at hz1; omega))
 refine leaves_cons (f:=247) (args:=#[.pointer (some ⟨w.heap.size,0,none⟩),.pointer (some ⟨w.heap.size+1,0,none⟩)]) (by simp) (by simp[go_sem]) ?_
 refine (rR w.heap.size 0 0 0 c _ (hc1 0) (hc1 1) (hc2 0) (hf1 0) (hf1 1) (hf2 0) hz).mono ?_
 rintro e u' w2 ⟨rfl,rfl,g1,g3,g2,hb2⟩
 clear HH hcall hmf hc1 hc2 hf1 hf2
 simp[Leaves,settle,results,Tryz.results220,go_sem,g1,g2,g3]
 exact⟨w1,hq,hb2⟩
def zJ:AVal→Bool
 |.agg [.int .i64 _,.int .i64 _]=>true
 |_=>false
def S8:AVal→Value
 |.agg [.int _ a,.int _ b]=>.agg #[.int .i64 a,.int .i64 b]
 |_=>.int .i64 0
theorem sX:Tried2Ok Tryz.prog 220 178 zJ S8 (.agg [.int .i64 0,.int .i64 0]) (.agg #[.int .i64 0,.int .i64 0]) where
 shape:=fun h g w u z hu hr=>by
  unfold zJ at hu
  split at hu
  ·cases hr with
   |agg _ arr hl hr=>
    obtain⟨l⟩:=arr
    match l,hl with
    | [p,q],_=>
      have e0:=bq (hr 0 _ p rfl rfl)
      have e1:=bq (hr 1 _ q rfl rfl)
      subst e0; subst e1
      rfl
  ·cases hu
 rep:=fun h g w u hu=>by
  unfold zJ at hu
  split at hu
  ·refine .agg _ _ rfl fun j c x hc hx=>?_
   match j with
   |0=>cases hc; cases hx; exact .int _ _
   |1=>cases hc; cases hx; exact .int _ _
   |j+2=>cases hc
  ·cases hu
 repz:=fun h g w=>by
  refine .agg _ _ rfl fun j c x hc hx=>?_
  match j with
  |0=>cases hc; cases hx; exact .int _ _
  |1=>cases hc; cases hx; exact .int _ _
  |j+2=>cases hc
 enter:=fun args w=>by kernel_rfl
 ok:=fun K caps u Q hu he w h=>by
  unfold zJ at hu
  split at hu
  ·exact B8 K caps _ _ Q he w h
  ·cases hu
 err:=fun K caps c Q he w h=>zI K caps c Q he w h
theorem rS (b:Nat) (x:Value) (y c:Int) (w:World) (hp:w.cell? ⟨b,0,none⟩=some x) (hq:w.cell? ⟨b+1,0,none⟩=some (.int .i64 y)) (fp:w.frozen? ⟨b,0,none⟩=false) (fq:w.frozen? ⟨b+1,0,none⟩=false) (hqb:b+1<w.heap.size) :
  CallsD Tryz.prog 250 #[.pointer (some ⟨b,0,none⟩),.pointer (some ⟨b+1,0,none⟩)] (.panicking (cO c)) w fun e u' w'=>
   e=.returned (.tuple #[])∧u'=.panicking [{ v:=.iface 178 (.agg #[.int .i64 c]),recovered:=true }]∧w'.cell? ⟨b,0,none⟩=some .nilFunc∧w'.cell? ⟨b+1,0,none⟩=some (.int .i64 c)∧Exe w.heap.size b w w':=by
 refine callsD_of_wpS Tryz.func250 rfl fun c₀ cs hu=>?_
 apply wpS_seq
 apply wpS_region
 simp[wpOpsS,go_sem,recoverD,hu,cO,Tryz.ntmps250,Exit.thenS,Array.replicate,List.replicate]
 refine wpS_of_wp ?_
 clear hu
 have hta:=fun w=>d9 c w
 have hst:∀w' m,(store ⟨b,0,none⟩ Value.nilFunc m).run Tryz.prog w'=stored Tryz.prog w' ⟨b,0,none⟩ Value.nilFunc m:=fun w' m=>run_store Tryz.prog w' _ _ m rfl
 have ha:∀o,Below w.heap.size w (w.alloc o):=fun o=>(Below.refl _ _).alloc (Nat.le_refl _) o
 have hp':∀o,(w.alloc o).cell? ⟨b,0,none⟩=some x:=fun o=>((ha o).cell (p:=⟨b,0,none⟩) (by simp; omega)).trans hp
 have hq':∀o,(w.alloc o).cell? ⟨b+1,0,none⟩=some (.int .i64 y):=fun o=>((ha o).cell (p:=⟨b+1,0,none⟩) (by simp; omega)).trans hq
 have fp':∀o,(w.alloc o).frozen? ⟨b,0,none⟩=false:=fun o=>((ha o).frozen (p:=⟨b,0,none⟩) (by simp; omega)).trans fp
 have fq':∀o,(w.alloc o).frozen? ⟨b+1,0,none⟩=false:=fun o=>((ha o).frozen (p:=⟨b+1,0,none⟩) (by simp; omega)).trans fq
 clear ha
 go_wp2
 go_region
 all_goals
  go_big_unhide
  simp[bodyPostS,results,Tryz.results250,go_sem]
  refine⟨bf _ (hp' _),bf (u:=.int .i64 y) _ ((aW _ (by simp)).trans (hq' _)),?_⟩
  exact (((Exe.of ((Below.refl w.heap.size w).alloc (Nat.le_refl _) _)).trans (.set _)).trans (.set1 _)).drew
theorem sY (b:Nat) (w:World) :
  CallsD Tryz.prog 250 #[.pointer (some ⟨b,0,none⟩),.pointer (some ⟨b+1,0,none⟩)] .returning w fun e u' w'=>
   e=.returned (.tuple #[])∧u'=.returning∧Below w.heap.size w w':=by
 refine callsD_of_wpS Tryz.func250 rfl fun c₀ cs hu=>?_
 apply wpS_seq
 apply wpS_region
 simp[wpOpsS,go_sem,recoverD,hu,Tryz.ntmps250,Exit.thenS,Array.replicate,List.replicate]
 refine wpS_of_wp ?_
 have hta:=fun w=>ea w
 go_wp2
 all_goals
  simp[bodyPostS,results,Tryz.results250,go_sem]
  exact⟨.returning,by cases c₀; simp_all,rfl,(Below.refl _ _).alloc (Nat.le_refl _) _⟩
set_option maxHeartbeats 1000000 in
theorem B9 (K:FuncId) (caps:Array Value) (v:FuncId) (Q:World→Prop) (he:∀w,(callFunc K caps).run Tryz.prog w=.ok (.enter K caps) w) (w:World)
  (h:∀w1,Below w.heap.size w w1→w.heap.size+1<w1.heap.size→Calls Tryz.prog K caps w1 fun e w'=>e=.returned (.func (.func v) #[] #[])∧w'.heap[w.heap.size]?=w1.heap[w.heap.size]?∧w'.heap[w.heap.size+1]?=w1.heap[w.heap.size+1]?∧w1.heap.size≤w'.heap.size∧Q w') :
  Calls Tryz.prog 226 #[.func (.func K) #[] caps] w fun e w'=>e=.returned (.tuple #[.func (.func v) #[] #[],.int .i64 0])∧∃w2,Q w2∧Exe w2.heap.size w.heap.size w2 w':=by
 have hmf:∀(fn:Fn) (first cap:Array Value) (w:World),(Instr.makeFunc fn first cap).run Tryz.prog w=.ok (.func fn first cap) w:=fun _ _ _ _=>rfl
 have hst:∀w' m,(store ⟨w.heap.size,0,none⟩ (Value.func (.func v) #[] #[]) m).run Tryz.prog w'=stored Tryz.prog w' ⟨w.heap.size,0,none⟩ (Value.func (.func v) #[] #[]) m:=fun w' m=>run_store Tryz.prog w' _ _ m rfl
 have HH:=fG h
 have hcall:∀w,(callFunc K caps).run Tryz.prog w=.ok (.enter K caps) w:=he
 clear h he
 go_enter_defers Tryz.func226,Tryz.ntmps226
 go_wp2_with (go_at_fn K; refine (HH.out _ (((Below.refl _ _).alloc (Nat.le_refl _) _).alloc (by simp) _) (by simp)).mono ?_; rintro e w1 ⟨rfl,hb1,hb2,hz1,hq⟩; obtain⟨hc1,hc2,hf1,hf2⟩:=dH hb1 hb2; have hz:w.heap.size+1<w1.heap.size:=(by simp at hz1; omega); have hd1:=hc1 0; have hd2:=hc2 0)
 refine leaves_cons (f:=250) (args:=#[.pointer (some ⟨w.heap.size,0,none⟩),.pointer (some ⟨w.heap.size+1,0,none⟩)]) (by simp) (by simp[go_sem]) ?_
 have hs:((w1.setCell ⟨w.heap.size,0,none⟩ (.func (.func v) #[] #[])).setCell ⟨w.heap.size+1,0,none⟩ (.int .i64 0)).heap.size=w1.heap.size:=by simp[World.setCell]
 refine (sY w.heap.size _).mono ?_
 rintro e u' w2 ⟨rfl,rfl,hb2⟩
 rw[hs] at hb2
 have g1:w2.cell? ⟨w.heap.size,0,none⟩=some (.func (.func v) #[] #[]):=by
  rw[hb2.cell (p:=⟨w.heap.size,0,none⟩) (by show w.heap.size<_; omega),aW _ (by simp)]
  exact bf _ hd1
 have g2:w2.cell? ⟨w.heap.size+1,0,none⟩=some (.int .i64 0):=by
  rw[hb2.cell (p:=⟨w.heap.size+1,0,none⟩) hz]
  exact bf (u:=.int .i64 0) _ ((aW _ (by simp)).trans hd2)
 clear HH hcall hmf hc1 hc2 hf1 hf2 hd1 hd2
 simp[Leaves,settle,results,Tryz.results226,go_sem,g1,g2]
 exact⟨w1,hq,((Exe.set _).trans (.set1 _)).trans (Exe.of hb2)⟩
set_option maxHeartbeats 1000000 in
theorem zK (K:FuncId) (caps:Array Value) (c:Int) (Q:World→Prop) (he:∀w,(callFunc K caps).run Tryz.prog w=.ok (.enter K caps) w) (w:World)
  (h:∀w1,Below w.heap.size w w1→w.heap.size+1<w1.heap.size→Calls Tryz.prog K caps w1 fun e w'=>e=.panicked (cO c)∧w'.heap[w.heap.size]?=w1.heap[w.heap.size]?∧w'.heap[w.heap.size+1]?=w1.heap[w.heap.size+1]?∧w1.heap.size≤w'.heap.size∧Q w') :
  Calls Tryz.prog 226 #[.func (.func K) #[] caps] w fun e w'=>e=.returned (.tuple #[.nilFunc,.int .i64 c])∧∃w2,Q w2∧Exe w2.heap.size w.heap.size w2 w':=by
 have hmf:∀(fn:Fn) (first cap:Array Value) (w:World),(Instr.makeFunc fn first cap).run Tryz.prog w=.ok (.func fn first cap) w:=fun _ _ _ _=>rfl
 have HH:=fG h
 have hcall:∀w,(callFunc K caps).run Tryz.prog w=.ok (.enter K caps) w:=he
 clear h he
 go_enter_defers Tryz.func226,Tryz.ntmps226
 go_wp2_with (go_at_fn K; refine (HH.out _ (((Below.refl _ _).alloc (Nat.le_refl _) _).alloc (by simp) _) (by simp)).mono ?_; rintro e w1 ⟨rfl,hb1,hb2,hz1,hq⟩; obtain⟨hc1,hc2,hf1,hf2⟩:=dH hb1 hb2; have hz:w.heap.size+1<w1.heap.size:=(by simp at hz1; omega))
 refine leaves_cons (f:=250) (args:=#[.pointer (some ⟨w.heap.size,0,none⟩),.pointer (some ⟨w.heap.size+1,0,none⟩)]) (by simp) (by simp[go_sem]) ?_
 refine (rS w.heap.size _ 0 c _ (hc1 0) (hc2 0) (hf1 0) (hf2 0) hz).mono ?_
 rintro e u' w2 ⟨rfl,rfl,g1,g2,hb2⟩
 clear HH hcall hmf hc1 hc2 hf1 hf2
 simp[Leaves,settle,results,Tryz.results226,go_sem,g1,g2]
 exact⟨w1,hq,hb2⟩
def zL:AVal→Bool
 |.fn _ []=>true
 |_=>false
def S9:AVal→Value
 |.fn f _=>.func (.func f) #[] #[]
 |_=>.nilFunc
theorem sZ:Tried2Ok Tryz.prog 226 178 zL S9 .nilfn .nilFunc where
 shape:=fun h g w u z hu hr=>by
  unfold zL at hu
  split at hu
  ·obtain⟨arr,rfl,hl⟩:=rC hr
   have:arr=#[]:=Array.eq_empty_of_size_eq_zero hl.symm
   subst this
   rfl
  ·cases hu
 rep:=fun h g w u hu=>by
  unfold zL at hu
  split at hu
  ·exact .fn _ _ _ rfl fun j c x hc=>by simp at hc
  ·cases hu
 repz:=fun h g w=>.nilfn
 enter:=fun args w=>by kernel_rfl
 ok:=fun K caps u Q hu he w h=>by
  unfold zL at hu
  split at hu
  ·exact B9 K caps _ Q he w h
  ·cases hu
 err:=fun K caps c Q he w h=>zK K caps c Q he w h
noncomputable def fsD:FuncId→Option Fsp:=fun g=>
 if g=223 then some pD else
 if g=44 then some pE else
 if g=229 then some OI else
 if g=230 then some OD else
 if g=217 then some OE else
 fsC g
theorem Ca:aI fsD:=
 ae B4 <|
 ae B5 <|
 ae OK <|
 ae OG <|
 ae OH <|
 nV
noncomputable def spB:FuncId→Option (Cv→Cv):=fun g=>
 if g=71 then some (gP fxm sS (.int .i64 0)) else
 if g=218 then some (gP fxm zH (.bool false)) else
 if g=220 then some (gP fxm zJ (.agg [.int .i64 0,.int .i64 0])) else
 if g=226 then some (gP fxm zL .nilfn) else
 spA g
theorem gT:jS spB:=
 dZ (fun cv h caps=>io sT cv h caps) <|
 dZ (fun cv h caps=>io sV cv h caps) <|
 dZ (fun cv h caps=>io sX cv h caps) <|
 dZ (fun cv h caps=>io sZ cv h caps) <|
 d8
/-! Closures that are called in regions that draw their order. -/
noncomputable def wb:Fsp:=fun _ args k=>match args with
 | [.int .i64 x,.int .i64 _,.rp [.int .u64 h,.int .u64 l]]=>bif i6 x&&shB (ab x) h l then k (i1 (sg (ngB x) (shr (ab x) (vw h l)))) else none
 |_=>none
theorem lw {x h l:Int} (hb:shB x h l=true):0≤shr x (vw h l)∧shr x (vw h l)≤65536∧i9 x (vw h l) (shr x (vw h l)).toNat=true∧i9 x (vw h l) ((shr x (vw h l)).toNat+1)=false:=by
 simp only[shB,Bool.and_eq_true,decide_eq_true_eq] at hb
 obtain⟨⟨⟨⟨x0,x1⟩,hh,hl⟩,hs0,hs⟩,hx⟩:=hb
 have a:=pA (i9 x (vw h l)) (fun m n=>KY (Int.le_of_lt hs0) m n) 17 0 (zC x0) (wa hs0 hx _ (by decide))
 rw[KX]
 refine⟨by omega,?_,a.1,a.2.1⟩
 rcases Nat.lt_or_ge (bs (i9 x (vw h l)) 17 0) 65537 with h|h
 ·omega
 ·have:=wa hs0 hx _ h; rw[a.1] at this; cases this
theorem Cb (N n:Nat) (α:Type) (x y h l:Int) (k:AOut→Option α):am real tab ((twT fsD spB).env real tab N (n+2)) N Tryz.f222 α [iN x,iN y,.rp [uN h,uN l]] k =
 bif i6 x then bif shB (ab x) h l then bif wB (shr (ab x) (vw h l)) then gz (decide (x<0)) (shr (ab x) (vw h l)) k else none else none else none:=by kernel_rfl
theorem G5:FspOk Tryz.prog 222 wb:=aq Ca gT ⟨Tryz.func222,fun _ _=>by kernel_rfl⟩ (by intro α args k; unfold wb; split<;>simp only[ak,Option.bind_some,Option.bind_none]) fun args out hs h=>by
 unfold wb at h
 split at h
 ·rename_i x y h1 l
  refine⟨8,2,(Cb 8 0 AOut x y h1 l some).trans (Eq.trans ?_ h)⟩
  cases hx:i6 x
  ·rw[hx] at h; cases h
  ·cases hb:shB (ab x) h1 l
   ·rfl
   ·have a:=lw hb
    simp only[bz.2 (show bG (shr (ab x) (vw h1 l)) from ⟨a.1,by omega⟩),gz,fxB,decide_eq_true (show shr (ab x) (vw h1 l)≤70368744177664 by omega),Bool.and_self,cond_true]
    rfl
 ·cases h
def pF:Fsp:=fun _ args k=>match args with
 | [.int .i64 x,.int .i64 _,.rp [.int .i64 b],.rp [.fn g []]]=>
   match un g with
   |some how=>bif okB x&&okB b then gz (xorB (ngB x) (ngB b)) (prP x b how) k else k (mis fxm 2)
   |none=>none
 |_=>none
def ja {α:Type} (x b how:Int) (k:AOut→Option α):Option α:=bif okB x&&okB b then gz (xorB (ngB x) (ngB b)) (prP x b how) k else k (mis fxm 2)
theorem wc (N n:Nat) (α:Type) (x y b:Int) (k:AOut→Option α):am real tab ((twT fsD spB).env real tab N (n+2)) N Tryz.f228 α [iN x,iN y,.rp [iN b],.rp [.fn 127 []]] k=ja x b 0 k:=by kernel_rfl
theorem wd (N n:Nat) (α:Type) (x y b:Int) (k:AOut→Option α):am real tab ((twT fsD spB).env real tab N (n+2)) N Tryz.f228 α [iN x,iN y,.rp [iN b],.rp [.fn 128 []]] k=ja x b 1 k:=by kernel_rfl
theorem wg (N n:Nat) (α:Type) (x y b:Int) (k:AOut→Option α):am real tab ((twT fsD spB).env real tab N (n+2)) N Tryz.f228 α [iN x,iN y,.rp [iN b],.rp [.fn 129 []]] k=ja x b 2 k:=by kernel_rfl
theorem wj (N n:Nat) (α:Type) (x y b:Int) (k:AOut→Option α):am real tab ((twT fsD spB).env real tab N (n+2)) N Tryz.f228 α [iN x,iN y,.rp [iN b],.rp [.fn 130 []]] k=ja x b 3 k:=by kernel_rfl
theorem Cd:FspOk Tryz.prog 228 pF:=aq Ca gT ⟨Tryz.func228,fun _ _=>by kernel_rfl⟩ (by intro α args k; unfold pF; split<;>(try split)<;>simp only[ak,kx,Option.bind_some,Option.bind_none]) fun args out hs h=>by
 unfold pF at h
 split at h
 ·rename_i x y b g
  split at h
  ·rename_i how hg
   rcases ky hg with hf|⟨rfl,rfl⟩|⟨rfl,rfl⟩|⟨rfl,rfl⟩|⟨rfl,rfl⟩
   ·cases hf
   ·exact⟨8,2,(wc 8 0 AOut x y b some).trans h⟩
   ·exact⟨8,2,(wd 8 0 AOut x y b some).trans h⟩
   ·exact⟨8,2,(wg 8 0 AOut x y b some).trans h⟩
   ·exact⟨8,2,(wj 8 0 AOut x y b some).trans h⟩
  ·cases h
 ·cases h
noncomputable def fsE:FuncId→Option Fsp:=fun g=>
 if g=222 then some wb else
 if g=228 then some pF else
 fsD g
theorem jU:aI fsE:=
 ae G5 <|
 ae Cd <|
 Ca
/-! Sums and differences of spots. -/
def s5 (p q:Int) (ok:Bool):Int × Int × Int:=bif ok then (bif fxB (ab p)&&fxB (ab q) then (p,q,0) else (0,0,4)) else (0,0,2)
def plP (x y u v:Int):Int × Int × Int:=s5 (x+u) (y+v) (four x y u v)
def miP (x y u v:Int):Int × Int × Int:=s5 (x-u) (y-v) (four x y u v)
def plX (x y u v:Int):Int:=(plP x y u v).1
def plY (x y u v:Int):Int:=(plP x y u v).2.1
def plE (x y u v:Int):Int:=(plP x y u v).2.2
def miX (x y u v:Int):Int:=(miP x y u v).1
def miY (x y u v:Int):Int:=(miP x y u v).2.1
def miE (x y u v:Int):Int:=(miP x y u v).2.2
def rT:Fsp:=fun _ args k=>match args with
 | [.agg [.int .i64 x,.int .i64 y],.agg [.int .i64 u,.int .i64 v]]=>k (s2 (plX x y u v) (plY x y u v) (plE x y u v))
 |_=>none
def mS:Fsp:=fun _ args k=>match args with
 | [.agg [.int .i64 x,.int .i64 y],.agg [.int .i64 u,.int .i64 v]]=>k (s2 (miX x y u v) (miY x y u v) (miE x y u v))
 |_=>none
def pG {α:Type} (x y u v p q:Int) (k:AOut→Option α):Option α:=
 bif [x,y,u,v].all okB then
  bif okB x&&okB u then
   bif fxB (ab p) then
    bif okB y&&okB v then
     bif fxB (ab q) then k (s2 p q 0) else k (s2 0 0 4)
    else k (s2 0 0 2)
   else k (s2 0 0 4)
  else k (s2 0 0 2)
 else k (s2 0 0 2)
theorem Ex {α:Type} (x y u v p q:Int) (k:AOut→Option α):pG x y u v p q k=k (s2 (s5 p q (four x y u v)).1 (s5 p q (four x y u v)).2.1 (s5 p q (four x y u v)).2.2):=by
 unfold pG s5 four
 rw[OC]
 cases okB x<;>cases okB y<;>cases okB u<;>cases okB v<;>cases fxB (ab p)<;>cases fxB (ab q)<;>rfl
theorem Ce (N n:Nat) (α:Type) (x y u v:Int) (k:AOut→Option α):am real tab ((twT fsE spB).env real tab N (n+6)) N Tryz.f185 α [sN x y,sN u v] k=pG x y u v (x+u) (y+v) k:=by kernel_rfl
theorem uo:FspOk Tryz.prog 185 rT:=aq jU gT ⟨Tryz.func185,fun _ _=>by kernel_rfl⟩ (by intro α args k; unfold rT; split<;>rfl) fun args out hs h=>by
 unfold rT at h
 split at h
 ·rename_i x y u v
  exact⟨8,6,(Ce 8 0 AOut x y u v some).trans ((Ex ..).trans h)⟩
 ·cases h
theorem zM (N n:Nat) (α:Type) (x y u v:Int) (k:AOut→Option α):am real tab ((twT fsE spB).env real tab N (n+6)) N Tryz.f178 α [sN x y,sN u v] k=pG x y u v (x-u) (y-v) k:=by kernel_rfl
theorem rU:FspOk Tryz.prog 178 mS:=aq jU gT ⟨Tryz.func178,fun _ _=>by kernel_rfl⟩ (by intro α args k; unfold mS; split<;>rfl) fun args out hs h=>by
 unfold mS at h
 split at h
 ·rename_i x y u v
  exact⟨8,6,(zM 8 0 AOut x y u v some).trans ((Ex ..).trans h)⟩
 ·cases h
/-! Within. -/
def mT:Fsp:=fun _ args k=>match args with
 | [.agg [.int .i64 x,.int .i64 y],.int .i64 r]=>k (b2 (zi x y r) (SW x y r))
 |_=>none
theorem Ey (a b:Int):decide (iY a b≤0)=decide (a≤b):=by
 rw[decide_eq_decide]; unfold iY; repeat' split
 all_goals omega
theorem K7 {x y:Int} (hx:okB x=true) (hy:okB y=true):0≤sq2 x y∧sq2 x y≤9903520314283042199192993792:=by
 have a:=cn hx hx
 have b:=cn hy hy
 unfold sq2; omega
theorem rV (x:Int):ab x*ab x=x*x:=by unfold ab; split; exact Int.neg_mul_neg x x; rfl
theorem zN (N n:Nat) (α:Type) (x y u:Int) (k:AOut→Option α):am real tab ((twT fsE spB).env real tab N (n+6)) N Tryz.f179 α [sN x y,iN u] k =
 bif okB x&&okB y then bif [u].all okB then bif decide (u≥0) then bif i6 u then bif i6 u then bif wB (ab u)&&wB (ab u) then bif wB (loW (sq2 x y))&&wB (loW (ab u*ab u))
 then k (b2 (decide (iY (vw (hiW (sq2 x y)) (loW (sq2 x y))) (vw (hiW (ab u*ab u)) (loW (ab u*ab u)))≤0)) 0) else none else none else none else none else k (b2 false 0) else
 k (b2 false 2) else k (b2 false 2):=by kernel_rfl
theorem zO:FspOk Tryz.prog 179 mT:=aq jU gT ⟨Tryz.func179,fun _ _=>by kernel_rfl⟩ (by intro α args k; unfold mT; split<;>rfl) fun args out hs h=>by
 unfold mT at h
 split at h
 ·rename_i x y u
  refine⟨8,6,(zN 8 0 AOut x y u some).trans (Eq.trans ?_ h)⟩
  unfold zi SW Oo
  rw[S5]
  cases hx:okB x
  ·rfl
  ·cases hy:okB y
   ·rfl
   ·cases hu:okB u
    ·rfl
    ·simp only[cK hu,il (cK hu),jg,ep,Ey,Bool.and_self,cond_true,rV]
     by_cases h0:0≤u
     ·rw[decide_eq_true h0]; rfl
     ·rw[decide_eq_false h0]; rfl
 ·cases h
/-! Unit. -/
noncomputable def K8:Fsp:=fun _ args k=>match args with
 | [.agg [.int .i64 x,.int .i64 y]]=>k (s2 (cN x y x) (cN x y y) (vR x y))
 |_=>none
theorem OL (n:Int):(!!(hiW n==0&&(loW n==0&&true)))=(n==0):=by
 have e:=mR n
 rw[Bool.not_not,Bool.and_true]
 by_cases h:n=0
 ·subst h; rfl
 ·rw[beq_eq_false_iff_ne.2 h]
  by_cases h1:hiW n=0
  ·rw[beq_iff_eq.2 h1,beq_eq_false_iff_ne.2 (show loW n≠0 by omega)]; rfl
  ·rw[beq_eq_false_iff_ne.2 h1]; rfl
theorem rW {x y:Int} (hx:okB x=true) (hy:okB y=true) (hz:sq2 x y≠0):shB (ab x) (hiW (sq2 x y)) (loW (sq2 x y))=true∧shB (ab y) (hiW (sq2 x y)) (loW (sq2 x y))=true:=by
 have a:=cn hx hx
 have b:=cn hy hy
 have s:=K7 hx hy
 have hw:=im (show 0≤sq2 x y∧sq2 x y<_ from ⟨s.1,by omega⟩)
 have e1:ab x*ab x≤sq2 x y:=by unfold sq2; omega
 have e2:ab y*ab y≤sq2 x y:=by unfold sq2; omega
 simp only[shB,hw,jg,ep,decide_eq_true (b9 x),decide_eq_true (b9 y),decide_eq_true (Ep hx),decide_eq_true (Ep hy),decide_eq_true (show 0<sq2 x y by omega),decide_eq_true (show sq2 x y<19807040628566084398385987584 by omega),decide_eq_true e1,decide_eq_true e2,Bool.and_self]
 trivial
theorem G6 (N n:Nat) (α:Type) (x y:Int) (k:AOut→Option α):am real tab ((twT fsE spB).env real tab N (n+6)) N Tryz.f181 α [sN x y] k =
 bif okB x&&okB y then bif !!(hiW (sq2 x y)==0&&(loW (sq2 x y)==0&&true)) then k (s2 0 0 10) else bif [x,y,x,y].all okB then bif i6 x&&shB (ab x) (hiW (sq2 x y)) (loW
 (sq2 x y)) then bif i6 y&&shB (ab y) (hiW (sq2 x y)) (loW (sq2 x y)) then k (s2 (sg (ngB x) (shr (ab x) (vw (hiW (sq2 x y)) (loW (sq2 x y))))) (sg (ngB y) (shr (ab y) (vw (hiW
 (sq2 x y)) (loW (sq2 x y))))) 0) else none else none else k (s2 0 0 0) else k (s2 0 0 2):=by kernel_rfl
theorem Ez:FspOk Tryz.prog 181 K8:=aq jU gT ⟨Tryz.func181,fun _ _=>by kernel_rfl⟩ (by intro α args k; unfold K8; split<;>rfl) fun args out hs h=>by
 unfold K8 at h
 split at h
 ·rename_i x y
  refine⟨8,6,(G6 8 0 AOut x y some).trans (Eq.trans ?_ h)⟩
  unfold cN vR rG
  rw[OC,OL]
  cases hx:okB x
  ·rfl
  ·cases hy:okB y
   ·rfl
   ·cases hz:sq2 x y==0
    ·obtain⟨a,b⟩:=rW hx hy (beq_eq_false_iff_ne.1 hz)
     simp only[cK hx,cK hy,a,b,ep,Bool.and_self,cond_true,cond_false]
    ·rfl
 ·cases h
def Cf {α:Type} (neg:Bool) (n:Int) (k:AOut→Option α):Option α:=bif fxB n then k (i2 (sg neg n) 0) else k (i2 0 4)
theorem EA {α:Type} (neg:Bool) (n:Int) (k:AOut→Option α):Cf neg n k=k (i2 (fxV neg n) (fxE n)):=by
 unfold Cf fxV fxE; cases fxB n<;>rfl
/-! Times. -/
def Cg (x y b:Int):Bool:=okB x&&okB y&&okB b
def rX (x y b how:Int):Bool:=fxB (prP x b how)&&fxB (prP y b how)
def tiV (x y b how c:Int):Int:=bif Cg x y b&&rX x y b how then sg (xorB (ngB c) (ngB b)) (prP c b how) else 0
def tiE (x y b how:Int):Int:=bif Cg x y b then (bif rX x y b how then 0 else 4) else 2
def rY:Fsp:=fun _ args k=>match args with
 | [.agg [.int .i64 x,.int .i64 y],.int .i64 b,.int .i64 how]=>bif jR how then k (s2 (tiV x y b how x) (tiV x y b how y) (tiE x y b how)) else none
 |_=>none
def fX {α:Type} (x y b how:Int) (k:AOut→Option α):Option α:=
 bif [x,y,b].all okB then
  bif [x,y,x,y].all okB then
   bif okB x&&okB b then
    bif fxB (prP x b how) then
     bif okB y&&okB b then
      bif fxB (prP y b how) then k (s2 (sg (xorB (ngB x) (ngB b)) (prP x b how)) (sg (xorB (ngB y) (ngB b)) (prP y b how)) 0)
      else k (s2 0 0 4)
     else k (s2 0 0 2)
    else k (s2 0 0 4)
   else k (s2 0 0 2)
  else k (s2 0 0 2)
 else k (s2 0 0 2)
theorem kA {α:Type} (x y b how:Int) (k:AOut→Option α):fX x y b how k=k (s2 (tiV x y b how x) (tiV x y b how y) (tiE x y b how)):=by
 unfold fX tiV tiE Cg rX
 rw[TI,OC]
 cases okB x<;>cases okB y<;>cases okB b<;>cases fxB (prP x b how)<;>cases fxB (prP y b how)<;>rfl
theorem zP (N n:Nat) (α:Type) (x y b:Int) (k:AOut→Option α):am real tab ((twT fsE spB).env real tab N (n+6)) N Tryz.f184 α [sN x y,iN b,iN 0] k=fX x y b 0 k:=by kernel_rfl
theorem zQ (N n:Nat) (α:Type) (x y b:Int) (k:AOut→Option α):am real tab ((twT fsE spB).env real tab N (n+6)) N Tryz.f184 α [sN x y,iN b,iN 1] k=fX x y b 1 k:=by kernel_rfl
theorem zR (N n:Nat) (α:Type) (x y b:Int) (k:AOut→Option α):am real tab ((twT fsE spB).env real tab N (n+6)) N Tryz.f184 α [sN x y,iN b,iN 2] k=fX x y b 2 k:=by kernel_rfl
theorem zS (N n:Nat) (α:Type) (x y b:Int) (k:AOut→Option α):am real tab ((twT fsE spB).env real tab N (n+6)) N Tryz.f184 α [sN x y,iN b,iN 3] k=fX x y b 3 k:=by kernel_rfl
theorem uq:FspOk Tryz.prog 184 rY:=aq jU gT ⟨Tryz.func184,fun _ _=>by kernel_rfl⟩ (by intro α args k; unfold rY; split<;>simp only[ak,Option.bind_some,Option.bind_none]) fun args out hs h=>by
 unfold rY at h
 split at h
 ·rename_i x y b how
  cases hw:jR how
  ·rw[hw] at h; cases h
  ·rw[hw,cond_true] at h
   rcases kv hw with rfl|rfl|rfl|rfl
   ·exact⟨8,6,(zP 8 0 AOut x y b some).trans ((kA ..).trans h)⟩
   ·exact⟨8,6,(zQ 8 0 AOut x y b some).trans ((kA ..).trans h)⟩
   ·exact⟨8,6,(zR 8 0 AOut x y b some).trans ((kA ..).trans h)⟩
   ·exact⟨8,6,(zS 8 0 AOut x y b some).trans ((kA ..).trans h)⟩
 ·cases h
/-! Dot. -/
def dtP (s how:Int):Int:=gy how (ngB s) (ab s) 65536
def dtV (x y u v how:Int):Int:=bif four x y u v then fxV (ngB (dotS x y u v)) (dtP (dotS x y u v) how) else 0
def dtE (x y u v how:Int):Int:=bif four x y u v then fxE (dtP (dotS x y u v) how) else 2
def zT:Fsp:=fun _ args k=>match args with
 | [.agg [.int .i64 x,.int .i64 y],.agg [.int .i64 u,.int .i64 v],.int .i64 how]=>bif jR how then k (i2 (dtV x y u v how) (dtE x y u v how)) else none
 |_=>none
def kB {α:Type} (x u v w how:Int) (k:AOut→Option α):Option α:=
 bif [x,u,v,w].all okB then
  bif i6 x then
   bif i6 v then
    bif wB (ab x)&&wB (ab v) then
     bif i6 u then
      bif i6 w then
       bif wB (ab u)&&wB (ab w) then
        bif (!(decide (x<0)==decide (v<0)))==(!(decide (u<0)==decide (w<0))) then
         bif wB (hiW (ab x*ab v))&&wB (loW (ab x*ab v))&&wB (hiW (ab u*ab w))&&wB (loW (ab u*ab w))&&decide (vw (hiW (ab x*ab v)) (loW (ab x*ab v))+vw (hiW (ab u*ab w)) (loW (ab u*ab w))<340282366920938463463374607431768211456) then
          bif wB (hiW (vw (hiW (ab x*ab v)) (loW (ab x*ab v))+vw (hiW (ab u*ab w)) (loW (ab u*ab w))))&&wB (loW (vw (hiW (ab x*ab v)) (loW (ab x*ab v))+vw (hiW (ab u*ab w)) (loW (ab u*ab w))))&&wB 65536&&decide ((0:Int)<65536) then
           Cf (!(decide (x<0)==decide (v<0))) (gy how (!(decide (x<0)==decide (v<0))) (vw (hiW (vw (hiW (ab x*ab v)) (loW (ab x*ab v))+vw (hiW (ab u*ab w)) (loW (ab u*ab w)))) (loW (vw (hiW (ab x*ab v)) (loW (ab x*ab v))+vw (hiW (ab u*ab w)) (loW (ab u*ab w))))) 65536) k
          else none
         else none
        else
         bif wB (loW (ab x*ab v))&&wB (loW (ab u*ab w)) then
          bif decide (iY (vw (hiW (ab x*ab v)) (loW (ab x*ab v))) (vw (hiW (ab u*ab w)) (loW (ab u*ab w)))≥0) then
           bif wB (hiW (ab x*ab v))&&wB (loW (ab x*ab v))&&wB (hiW (ab u*ab w))&&wB (loW (ab u*ab w))&&decide (vw (hiW (ab u*ab w)) (loW (ab u*ab w))≤vw (hiW (ab x*ab v)) (loW (ab x*ab v))) then
            bif wB (hiW (vw (hiW (ab x*ab v)) (loW (ab x*ab v))-vw (hiW (ab u*ab w)) (loW (ab u*ab w))))&&wB (loW (vw (hiW (ab x*ab v)) (loW (ab x*ab v))-vw (hiW (ab u*ab w)) (loW (ab u*ab w))))&&wB 65536&&decide ((0:Int)<65536) then
             Cf (!(decide (x<0)==decide (v<0))) (gy how (!(decide (x<0)==decide (v<0))) (vw (hiW (vw (hiW (ab x*ab v)) (loW (ab x*ab v))-vw (hiW (ab u*ab w)) (loW (ab u*ab w)))) (loW (vw (hiW (ab x*ab v)) (loW (ab x*ab v))-vw (hiW (ab u*ab w)) (loW (ab u*ab w))))) 65536) k
            else none
           else none
          else
           bif wB (hiW (ab u*ab w))&&wB (loW (ab u*ab w))&&wB (hiW (ab x*ab v))&&wB (loW (ab x*ab v))&&decide (vw (hiW (ab x*ab v)) (loW (ab x*ab v))≤vw (hiW (ab u*ab w)) (loW (ab u*ab w))) then
            bif wB (hiW (vw (hiW (ab u*ab w)) (loW (ab u*ab w))-vw (hiW (ab x*ab v)) (loW (ab x*ab v))))&&wB (loW (vw (hiW (ab u*ab w)) (loW (ab u*ab w))-vw (hiW (ab x*ab v)) (loW (ab x*ab v))))&&wB 65536&&decide ((0:Int)<65536) then
             Cf (!(decide (u<0)==decide (w<0))) (gy how (!(decide (u<0)==decide (w<0))) (vw (hiW (vw (hiW (ab u*ab w)) (loW (ab u*ab w))-vw (hiW (ab x*ab v)) (loW (ab x*ab v)))) (loW (vw (hiW (ab u*ab w)) (loW (ab u*ab w))-vw (hiW (ab x*ab v)) (loW (ab x*ab v))))) 65536) k
            else none
           else none
         else none
       else none
      else none
     else none
    else none
   else none
  else none
 else k (i2 0 2)
theorem Ch (a b:Int):a*b=sg (xorB (ngB a) (ngB b)) (ab a*ab b):=by
 unfold sg xorB ngB ab
 by_cases h1:a<0<;>by_cases h2:b<0<;>simp[h1,h2,Int.neg_mul,Int.mul_neg]
theorem Ta (how:Int) (neg:Bool):gy how neg 0 65536=0:=by
 unfold gy rnd up1; simp
theorem rZ {α:Type} {s N how:Int} {neg:Bool} (hs:s=sg neg N) (hN:0≤N) (k:AOut→Option α):Cf neg (gy how neg N 65536) k=k (i2 (fxV (ngB s) (dtP s how)) (fxE (dtP s how))):=by
 rw[EA]
 unfold dtP
 rcases Int.lt_or_eq_of_le hN with h|h
 ·have e1:ngB s=neg∧ab s=N:=by
   subst hs; unfold ngB ab sg
   cases neg
   ·simp only[cond_false]; rw[decide_eq_false (by omega),if_neg (by omega)]; exact⟨rfl,rfl⟩
   ·simp only[cond_true]; rw[decide_eq_true (by omega),if_pos (by omega)]; exact⟨rfl,by omega⟩
  rw[e1.1,e1.2]
 ·subst h
  have e:s=0:=by subst hs; cases neg<;>rfl
  subst e
  rw[show ab 0=0 from rfl,Ta,Ta]
  cases neg<;>rfl
theorem pH {α:Type} (x u v w how:Int) (k:AOut→Option α):kB x u v w how k=k (i2 (dtV x u v w how) (dtE x u v w how)):=by
 unfold kB dtV dtE four
 rw[OC]
 cases hx:okB x
 ·rfl
 ·cases hu:okB u
  ·rfl
  ·cases hv:okB v
   ·rfl
   ·cases hw:okB w
    ·rfl
    ·have p:=cn hx hv
     have q:=cn hu hw
     have e1:=Ch x v
     have e2:=Ch u w
     simp only[cK hx,cK hu,cK hv,cK hw,il (cK hx),il (cK hu),il (cK hv),il (cK hw),jg,ep,im (show 0≤ab x*ab v∧ab x*ab v<_ from ⟨p.1,by omega⟩),im (show 0≤ab u*ab w∧ab u*ab w<_ from ⟨q.1,by omega⟩),Bool.and_self,cond_true,show wB 65536=true from rfl,show decide ((0:Int)<65536)=true from rfl,Bool.true_and]
     have e3:dotS x u v w=x*v+u*w:=rfl
     have g1:(!(decide (x<0)==decide (v<0)))=xorB (ngB x) (ngB v):=rfl
     have g2:(!(decide (u<0)==decide (w<0)))=xorB (ngB u) (ngB w):=rfl
     rw[g1,g2]
     generalize xorB (ngB x) (ngB v)=m at *
     generalize xorB (ngB u) (ngB w)=n at *
     generalize ab x*ab v=P at *
     generalize ab u*ab w=Q at *
     rw[e1,e2] at e3
     generalize dotS x u v w=s at *
     by_cases hmn:m=n
     ·subst hmn
      rw[beq_self_eq_true,cond_true,decide_eq_true (show P+Q<340282366920938463463374607431768211456 by omega),im (show 0≤P+Q∧P+Q<_ from ⟨by omega,by omega⟩)]
      simp only[Bool.and_self,cond_true]
      exact rZ (by rw[e3]; cases m<;>simp[sg]; omega) (by omega) k
     ·rw[beq_eq_false_iff_ne.2 hmn,cond_false]
      have hn:n=!m:=by cases m<;>cases n<;>simp at hmn ⊢
      subst hn
      by_cases hc:Q≤P
      ·rw[decide_eq_true (show iY P Q≥0 by unfold iY; repeat' split
                                           all_goals omega),decide_eq_true hc,im (show 0≤P-Q∧P-Q<_ from ⟨by omega,by omega⟩)]
       simp only[Bool.and_self,cond_true]
       exact rZ (by rw[e3]; cases m<;>simp[sg]<;>omega) (by omega) k
      ·rw[decide_eq_false (show ¬iY P Q≥0 by unfold iY; repeat' split
                                             all_goals omega),decide_eq_true (show P≤Q by omega),im (show 0≤Q-P∧Q-P<_ from ⟨by omega,by omega⟩)]
       simp only[Bool.and_self,cond_true,cond_false]
       exact rZ (by rw[e3]; cases m<;>simp[sg]<;>omega) (by omega) k
theorem G7 (N n:Nat) (α:Type) (x u v w:Int) (k:AOut→Option α):am real tab ((twT fsE spB).env real tab N (n+6)) N Tryz.f183 α [sN x u,sN v w,iN 0] k=kB x u v w 0 k:=by kernel_rfl
theorem G8 (N n:Nat) (α:Type) (x u v w:Int) (k:AOut→Option α):am real tab ((twT fsE spB).env real tab N (n+6)) N Tryz.f183 α [sN x u,sN v w,iN 1] k=kB x u v w 1 k:=by kernel_rfl
theorem G9 (N n:Nat) (α:Type) (x u v w:Int) (k:AOut→Option α):am real tab ((twT fsE spB).env real tab N (n+6)) N Tryz.f183 α [sN x u,sN v w,iN 2] k=kB x u v w 2 k:=by kernel_rfl
theorem Ha (N n:Nat) (α:Type) (x u v w:Int) (k:AOut→Option α):am real tab ((twT fsE spB).env real tab N (n+6)) N Tryz.f183 α [sN x u,sN v w,iN 3] k=kB x u v w 3 k:=by kernel_rfl
theorem zU:FspOk Tryz.prog 183 zT:=aq jU gT ⟨Tryz.func183,fun _ _=>by kernel_rfl⟩ (by intro α args k; unfold zT; split<;>simp only[ak,Option.bind_some,Option.bind_none]) fun args out hs h=>by
 unfold zT at h
 split at h
 ·rename_i x u v w how
  cases hw:jR how
  ·rw[hw] at h; cases h
  ·rw[hw,cond_true] at h
   rcases kv hw with rfl|rfl|rfl|rfl
   ·exact⟨8,6,(G7 8 0 AOut x u v w some).trans ((pH ..).trans h)⟩
   ·exact⟨8,6,(G8 8 0 AOut x u v w some).trans ((pH ..).trans h)⟩
   ·exact⟨8,6,(G9 8 0 AOut x u v w some).trans ((pH ..).trans h)⟩
   ·exact⟨8,6,(Ha 8 0 AOut x u v w some).trans ((pH ..).trans h)⟩
 ·cases h
/-! Scale. -/
def slP (a n d how:Int):Int:=gy how (scG a n d) (ab a*ab n) (ab d)
def r6 (a n d:Int):Bool:=okB a&&(mM n&&mM d)
def slV (a n d how:Int):Int:=bif r6 a n d then (bif d==0 then 0 else fxV (scG a n d) (slP a n d how)) else 0
def slE (a n d how:Int):Int:=bif r6 a n d then (bif d==0 then 10 else fxE (slP a n d how)) else 2
def nW:Fsp:=fun _ args k=>match args with
 | [.int .i64 a,.int .i64 n,.int .i64 d,.int .i64 how]=>bif jR how then k (i2 (slV a n d how) (slE a n d how)) else none
 |_=>none
def fY {α:Type} (x u v how:Int) (k:AOut→Option α):Option α:=
 bif [x].all okB then
  bif decide (u≥-2147483648) then
   bif decide (u≤2147483648) then
    bif decide (v≥-2147483648) then
     bif !(decide (v≤2147483648)) then k (i2 0 2)
     else
      bif !(v != 0) then k (i2 0 10)
      else
       bif i6 x then
        bif i6 u then
         bif wB (ab x)&&wB (ab u) then
          bif i6 v then
           bif wB (hiW (ab x*ab u))&&wB (loW (ab x*ab u))&&wB (ab v)&&decide (0<ab v) then
            Cf (!(decide (x<0)==!(decide (u<0)==decide (v<0)))) (gy how (!(decide (x<0)==!(decide (u<0)==decide (v<0)))) (vw (hiW (ab x*ab u)) (loW (ab x*ab u))) (ab v)) k
           else none
          else none
         else none
        else none
       else none
    else k (i2 0 2)
   else k (i2 0 2)
  else k (i2 0 2)
 else k (i2 0 2)
theorem EB {n:Int} (h:mM n=true):okB n=true:=by rw[dY] at h; rw[cI]; omega
theorem kC {α:Type} (x u v how:Int) (k:AOut→Option α):fY x u v how k=k (i2 (slV x u v how) (slE x u v how)):=by
 unfold fY slV slE r6
 rw[S5]
 cases hx:okB x
 ·rfl
 ·have r1:mM u=(decide (u≥-2147483648)&&decide (u≤2147483648)):=rfl
  have r2:mM v=(decide (v≥-2147483648)&&decide (v≤2147483648)):=rfl
  cases hu:mM u
  ·rw[hu] at r1
   cases h1:decide (u≥-2147483648)
   ·rfl
   ·rw[h1,Bool.true_and] at r1
    rw[←r1]; rfl
  ·rw[hu] at r1
   have r1:=Bool.and_eq_true_iff.1 r1.symm
   rw[r1.1,r1.2]
   cases hv:mM v
   ·rw[hv] at r2
    cases h1:decide (v≥-2147483648)
    ·rfl
    ·rw[h1,Bool.true_and] at r2
     rw[←r2]; rfl
   ·rw[hv] at r2
    have r2:=Bool.and_eq_true_iff.1 r2.symm
    rw[r2.1,r2.2]
    by_cases hz:v=0
    ·subst hz; rfl
    ·have hu':=EB hu
     have hv':=EB hv
     have p:=cn hx hu'
     have hav:0<ab v:=by unfold ab; split<;>omega
     have hb:(v != 0)=true:=by simp[hz]
     have hb2:(v==0)=false:=by simp[hz]
     simp only[hb,hb2,cK hx,cK hu',cK hv',il (cK hx),il (cK hu'),il (cK hv'),jg,ep,im (show 0≤ab x*ab u∧ab x*ab u<_ from ⟨p.1,by omega⟩),decide_eq_true hav,Bool.and_self,cond_true,cond_false,Bool.not_true]
     rw[EA]
     rfl
theorem zV (N n:Nat) (α:Type) (x u v:Int) (k:AOut→Option α):am real tab ((twT fsE spB).env real tab N (n+6)) N Tryz.f39 α [iN x,iN u,iN v,iN 0] k=fY x u v 0 k:=by kernel_rfl
theorem zW (N n:Nat) (α:Type) (x u v:Int) (k:AOut→Option α):am real tab ((twT fsE spB).env real tab N (n+6)) N Tryz.f39 α [iN x,iN u,iN v,iN 1] k=fY x u v 1 k:=by kernel_rfl
theorem zX (N n:Nat) (α:Type) (x u v:Int) (k:AOut→Option α):am real tab ((twT fsE spB).env real tab N (n+6)) N Tryz.f39 α [iN x,iN u,iN v,iN 2] k=fY x u v 2 k:=by kernel_rfl
theorem zY (N n:Nat) (α:Type) (x u v:Int) (k:AOut→Option α):am real tab ((twT fsE spB).env real tab N (n+6)) N Tryz.f39 α [iN x,iN u,iN v,iN 3] k=fY x u v 3 k:=by kernel_rfl
theorem nX:FspOk Tryz.prog 39 nW:=aq jU gT ⟨Tryz.func39,fun _ _=>by kernel_rfl⟩ (by intro α args k; unfold nW; split<;>simp only[ak,Option.bind_some,Option.bind_none]) fun args out hs h=>by
 unfold nW at h
 split at h
 ·rename_i x u v how
  cases hw:jR how
  ·rw[hw] at h; cases h
  ·rw[hw,cond_true] at h
   rcases kv hw with rfl|rfl|rfl|rfl
   ·exact⟨8,6,(zV 8 0 AOut x u v some).trans ((kC ..).trans h)⟩
   ·exact⟨8,6,(zW 8 0 AOut x u v some).trans ((kC ..).trans h)⟩
   ·exact⟨8,6,(zX 8 0 AOut x u v some).trans ((kC ..).trans h)⟩
   ·exact⟨8,6,(zY 8 0 AOut x u v some).trans ((kC ..).trans h)⟩
 ·cases h
noncomputable def fsF:FuncId→Option Fsp:=fun g=>
 if g=185 then some rT else
 if g=178 then some mS else
 if g=179 then some mT else
 if g=181 then some K8 else
 if g=184 then some rY else
 if g=183 then some zT else
 if g=39 then some nW else
 fsE g
theorem lz:aI fsF:=
 ae uo <|
 ae rU <|
 ae zO <|
 ae Ez <|
 ae uq <|
 ae zU <|
 ae nX <|
 jU
noncomputable def spC:FuncId→Option (Cv→Cv):=fun g=>
 if g=30 then some (nT 108) else
 spB g
theorem dg:jS spC:=
 dZ (fun cv h caps=>rD sP cv h caps) <|
 gT
end Go.Proofs.YtenolfpkkgcgcaaGreat
namespace Go.Proofs.YtenolfpkkgcgcaaGreat
theorem wk {n d:Int} (hn:0≤n) (hd:0<d):rnd 3 false n d=(2*n+d) / (2*d):=by
 have hu:up1 3 false (n % d) d=(decide (0<n % d)&&decide (d≤n % d+n % d)):=rfl
 unfold rnd
 rw[hu]
 have e1:=Int.emod_add_mul_ediv n d
 have e2:=Int.emod_nonneg n (show d≠0 by omega)
 have e3:=Int.emod_lt_of_pos n hd
 have hmul:2*d*(n / d)=2*(d*(n / d)):=by rw[Int.mul_assoc]
 generalize n / d=q at *
 generalize n % d=r at *
 by_cases h:d≤r+r
 ·rw[decide_eq_true (show 0<r by omega),decide_eq_true h]
  have e:2*n+d=(2*r-d)+2*d*(q+1):=by rw[Int.mul_add,hmul]; omega
  rw[e,Int.add_mul_ediv_left _ _ (by omega),Int.ediv_eq_zero_of_lt (by omega) (by omega)]
  simp
 ·rw[decide_eq_false h,Bool.and_false]
  have e:2*n+d=(2*r+d)+2*d*q:=by rw[hmul]; omega
  rw[e,Int.add_mul_ediv_left _ _ (by omega),Int.ediv_eq_zero_of_lt (by omega) (by omega)]
  simp
theorem kD {n m d:Int} (hn:0≤n) (h:n≤m) (hd:0<d):rnd 3 false n d≤rnd 3 false m d:=by
 rw[wk hn hd,wk (by omega) hd]
 exact Int.ediv_le_ediv (by omega) (by omega)
theorem mU {m d:Int} (hm:0≤m) (hd:0<d):rnd 3 false (m*d) d=m:=by
 rw[wk (Int.mul_nonneg hm (by omega)) hd,show 2*(m*d)+d=d+2*d*m by rw[Int.mul_comm m d,Int.mul_assoc]; omega,Int.add_mul_ediv_left _ _ (by omega),Int.ediv_eq_zero_of_lt (by omega) (by omega)]
 omega
theorem pI {n d:Int} (hn:0≤n) (hd:0<d):0≤rnd 3 false n d:=KK hn hd
def Hb (fl ke p:Int):Int:=rnd 3 false ((fl-ke)*p) 1000
def Hc (fl ke sw p q:Int):Int:=rnd 3 false ((fl-Hb fl ke p)*(1000000-sw*q)) 1000000
def Hd (be q:Int):Int:=rnd 3 false (65536*(be*(2000-q))) 2000000
structure GrIs (fl ke sw be we:Int):Prop where
 ke:1≤ke∧ke≤fl
 fl:fl≤65536
 sw:0≤sw∧sw≤1000
 be:0≤be∧be≤1000
 we:0≤we∧we≤1000
abbrev Gr1 (p:Int):Prop:=0≤p∧p≤1000
theorem cX {a b A B:Int} (ha:0≤a∧a≤A) (hb:0≤b∧b≤B):0≤a*b∧a*b≤A*B:=⟨Int.mul_nonneg ha.1 hb.1,Int.mul_le_mul ha.2 hb.2 hb.1 (by omega)⟩
theorem K9 {fl ke sw be we p:Int} (g:GrIs fl ke sw be we) (hp:Gr1 p):0≤Hb fl ke p∧Hb fl ke p≤fl-ke:=by
 have:=g.ke
 have a:=cX (a:=fl-ke) (A:=fl-ke) (b:=p) (B:=1000) ⟨by omega,by omega⟩ hp
 refine⟨pI a.1 (by omega),?_⟩
 have:=kD a.1 a.2 (d:=1000) (by omega)
 rwa [mU (by omega) (by omega)] at this
theorem La {sw q:Int} (hs:0≤sw∧sw≤1000) (hq:Gr1 q):0≤1000000-sw*q∧1000000-sw*q≤1000000:=by
 have:=cX hs hq; omega
theorem RC {fl ke sw be we p q:Int} (g:GrIs fl ke sw be we) (hp:Gr1 p) (hq:Gr1 q):0≤Hc fl ke sw p q∧Hc fl ke sw p q≤fl:=by
 have l:=K9 g hp
 have k:=g.ke
 have s:=La g.sw hq
 have a:=cX (a:=fl-Hb fl ke p) (A:=fl) (b:=1000000-sw*q) (B:=1000000) ⟨by omega,by omega⟩ s
 refine⟨pI a.1 (by omega),?_⟩
 have:=kD a.1 a.2 (d:=1000000) (by omega)
 rwa [mU (by omega) (by omega)] at this
theorem RD {be q:Int} (hb:0≤be∧be≤1000) (hq:Gr1 q):0≤Hd be q∧Hd be q≤65536:=by
 have a:=cX hb (b:=2000-q) (B:=2000) ⟨by omega,by omega⟩
 have b:=cX (a:=65536) (A:=65536) (b:=be*(2000-q)) (B:=2000000) ⟨by omega,by omega⟩ ⟨a.1,by omega⟩
 refine⟨pI b.1 (by omega),?_⟩
 have:=kD b.1 b.2 (d:=2000000) (by omega)
 rwa [mU (by omega) (by omega)] at this
end Go.Proofs.YtenolfpkkgcgcaaGreat
