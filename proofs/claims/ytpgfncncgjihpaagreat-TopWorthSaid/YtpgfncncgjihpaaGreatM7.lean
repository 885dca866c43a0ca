/- Parts of the proof, in build order. -/
import Derived.Test.YtpgfncncgjihpaaGreatM6
import Derived.Deep.RegionHeld3
import Derived.StillTailTactics
import Derived.Deep.DeepCutAuto
import Derived.Shelf.Spec.BitsCarry
namespace Go.Proofs.YtpgfncncgjihpaaGreat
open Go.RowKit NumA
def hiW (n:Int):Int:=n / 18446744073709551616
def loW (n:Int):Int:=n % 18446744073709551616
theorem zw {n:Int} (h0:0≤n) (h1:n<340282366920938463463374607431768211456):bH (hiW n):=by unfold bH hiW; omega
theorem mG (n:Int):bH (loW n):=by unfold bH loW; omega
theorem mH (n:Int):hiW n*18446744073709551616+loW n=n:=by unfold hiW loW; omega
theorem rL {x y:Int} (hx:bH x) (hy:bH y):0≤x*y∧x*y<340282366920938463463374607431768211456:=by
 obtain⟨a,b⟩:=hx; obtain⟨c,d⟩:=hy
 refine⟨Int.mul_nonneg a c,?_⟩
 have:x*y≤18446744073709551615*18446744073709551615:=Int.mul_le_mul (by omega) (by omega) c (by omega)
 omega
abbrev uv (h l:Int):Value:=.agg #[.int .u64 h,.int .u64 l]
theorem GX (x y:Int) (w:World) (hx:bH x) (hy:bH y) :
  Calls Tryz.prog 71 #[.int .u64 x,.int .u64 y] w fun e w'=>e=.returned (uv (hiW (x*y)) (loW (x*y)))∧Below w.heap.size w w':=by
 go_enter Tryz.func71,Tryz.ntmps71
 go_wp2_with (go_at_call 125; refine (P0 _ _ hx hy _).mono ?_; rintro e w' ⟨rfl,rfl⟩)
 exact bodyPost_ret (v:=uv (hiW (x*y)) (loW (x*y))) (by simp[results,Tryz.results71,go_sem,hiW,loW]) rfl ⟨rfl,(Below.refl _ _).alloc (Nat.le_refl _) _⟩
def rN (a b:Int):Int:=if a<b then -1 else if b<a then 1 else 0
theorem OQ (x:Int) (w:World):Calls Tryz.prog 197 #[.int .u64 x] w fun e w'=>e=.returned (.bool false)∧w=w':=by
 go_enter Tryz.func197,Tryz.ntmps197
 go_wp2
 go_ret
 exact⟨by simp,rfl⟩
theorem uw (x y:Int) (w:World):Calls Tryz.prog 165 #[.int .u64 x,.int .u64 y] w fun e w'=>e=.returned (.int .i64 (rN x y))∧w=w':=by
 unfold rN
 go_enter Tryz.func165,Tryz.ntmps165
 go_wp2_with (go_at_call 197; refine (OQ _ _).mono ?_; rintro e w' ⟨rfl,rfl⟩)
 all_goals (go_ret; exact⟨by simp[*],rfl⟩)
def orI (x y:Int):Int:=if x=0 then y else x
theorem T7 (x y:Int) (b:Nat) (w:World) (h0:w.cell? ⟨b,0,none⟩=some (.int .i64 x)) (h1:w.cell? ⟨b,1,none⟩=some (.int .i64 y)) :
  Calls Tryz.prog 164 #[.slice (some ⟨b,0,none⟩) 2 2] w fun e w'=>e=.returned (.int .i64 (orI x y))∧w=w':=by
 unfold orI
 go_enter Tryz.func164,Tryz.ntmps164
 go_wp2
 go_loop [5,8] (fun _ i=>i=.int .i64 0∨(i=.int .i64 1∧x=0)∨(i=.int .i64 2∧x=0∧y=0)) (fun _ i=>(2-intOf i).toNat)
 case atStart=>exact .inl rfl
 case round=>
  rcases hrel with rfl|⟨rfl,rfl⟩|⟨rfl,rfl,rfl⟩
  ·by_cases hx:x=0
   ·subst hx
    go_wp2
    go_round
    case rel=>simp
    case measure=>simp[intOf]
   ·have hxb:(x != 0)=true:=by simpa using hx
    go_wp2
    go_ret
    exact⟨by simp[hx],rfl⟩
  ·by_cases hy:y=0
   ·subst hy
    go_wp2
    go_round
    case rel=>simp
    case measure=>simp[intOf]
   ·have hxb:(y != 0)=true:=by simpa using hy
    go_wp2
    go_ret
    exact⟨by simp,rfl⟩
  ·go_wp2
   go_ret
   exact⟨by simp,rfl⟩
set_option maxHeartbeats 1000000 in
theorem BU (a b c d:Int) (w:World) :
  Calls Tryz.prog 123 #[uv a b,uv c d] w fun e w'=>e=.returned (.int .i64 (orI (rN a c) (rN b d)))∧Below w.heap.size w w':=by
 go_enter Tryz.func123,Tryz.ntmps123
 go_wp2_with fail
 go_region_held3 (fun w'=>w'.cell? ⟨w.heap.size,0,none⟩=some (.int .u64 a)∧w'.cell? ⟨w.heap.size,1,none⟩=some (.int .u64 b)∧w'.cell? ⟨w.heap.size+1,0,none⟩=some (.int .u64 c)∧w'.cell? ⟨w.heap.size+1,1,none⟩=some (.int .u64 d)) (simp[go_sem,World.cell?_alloc_past])
  (first
   |(go_at_call_of 165 (Value.int .u64 a); refine (uw a c _).mono ?_; rintro e w' ⟨rfl,rfl⟩)
   |(go_at_call_of 165 (Value.int .u64 b); refine (uw b d _).mono ?_; rintro e w' ⟨rfl,rfl⟩)
   |(go_at_call 164; refine (T7 (rN a c) (rN b d) (w.heap.size+2) _ (by simp[go_sem]) (by simp[go_sem])).mono ?_; rintro e w' ⟨rfl,rfl⟩))
 go_wp2
 go_ret
 refine⟨rfl,?_⟩
 exact ((((Below.refl _ _).alloc (Nat.le_refl _) _).alloc (by simp) _).alloc (by simp; omega) _).drew
def fQ (h l b:Int):Int:=(h*18446744073709551616+l) / b
def bA (h l b:Int):Int:=(h*18446744073709551616+l) % b
theorem OS (h l b:Int) (w:World) (hh:0≤h) (hl:bH l) (hb:b<18446744073709551616) (hlt:h<b) :
  Calls Tryz.prog 238 #[.int .u64 h,.int .u64 l,.int .u64 b] w fun e w'=>e=.returned (.tuple #[.int .u64 (fQ h l b),.int .u64 (bA h l b)])∧∃n,w'=w.drewN n:=by
 obtain⟨l1,l2⟩:=hl
 obtain⟨h,rfl⟩:=Int.eq_ofNat_of_zero_le hh
 obtain⟨l,rfl⟩:=Int.eq_ofNat_of_zero_le l1
 obtain⟨b,rfl⟩:=Int.eq_ofNat_of_zero_le (show 0≤b by omega)
 have e1:fQ (h:Int) l b=(((h*18446744073709551616+l) / b:Nat):Int):=by unfold fQ; rw[Int.natCast_ediv,Int.natCast_add,Int.natCast_mul]; rfl
 have e2:bA (h:Int) l b=(((h*18446744073709551616+l) % b:Nat):Int):=by unfold bA; rw[Int.natCast_emod,Int.natCast_add,Int.natCast_mul]; rfl
 rw[e1,e2]
 exact Tv h l b w (by omega) (by omega) (by omega)
theorem Li (h l b:Int) (w:World) (hh:0≤h) (hl:bH l) (hb:b<18446744073709551616) (hlt:h<b) :
  Calls Tryz.prog 199 #[uv h l,.int .u64 b] w fun e w'=>e=.returned (.tuple #[.int .u64 (fQ h l b),.int .u64 (bA h l b),.bool true])∧Below w.heap.size w w':=by
 have hd:decide ((b:Int)≤(h:Int))=false:=by simp only[decide_eq_false_iff_not]; omega
 go_enter Tryz.func199,Tryz.ntmps199
 go_wp2_with (go_at_call 238; refine (OS h l b _ hh hl hb hlt).mono ?_; rintro e w' ⟨rfl,n,rfl⟩)
 go_ret3
 exact⟨rfl,((Below.refl _ _).alloc (Nat.le_refl _) _).trans ⟨rfl,rfl,rfl,Nat.le_refl _,fun _ _=>rfl⟩⟩
theorem OT (h l b:Int) (w:World) (hlt:b≤h) :
  Calls Tryz.prog 199 #[uv h l,.int .u64 b] w fun e w'=>e=.returned (.tuple #[.int .u64 0,.int .u64 0,.bool false])∧Below w.heap.size w w':=by
 have hd:decide ((b:Int)≤(h:Int))=true:=by simp only[decide_eq_true_eq]; omega
 go_enter Tryz.func199,Tryz.ntmps199
 go_wp2_with fail
 go_ret3
 exact⟨rfl,(Below.refl _ _).alloc (Nat.le_refl _) _⟩
end Go.Proofs.YtpgfncncgjihpaaGreat
namespace Go.Proofs.YtpgfncncgjihpaaGreat
open Go.RowKit
theorem kw {P:Program} {f:FuncId} {S:Fsp} (hn:∀(α:Type) args (k:AOut→Option α),S α args k=(S AOut args some).bind k) (hen:∀args w,(callFunc f args).run P w=.ok (.enter f args) w)
  (h:∀args out,S AOut args some=some out→args.all AVal.p1=true∧out.plain=true∧∀w,Calls P f (args.map AVal.v1).toArray w fun e w'=>e=out.ending∧Below w.heap.size w w'):FspOk P f S where
 enter:=hen
 nat:=hn
 calls:=fun args out hout M w cargs hM hl hr=>by
  obtain⟨h1,h2,h3⟩:=h args out hout
  rw[El hl hr h1]
  refine (h3 w).mono ?_
  rintro e w' ⟨rfl,hb⟩
  refine⟨M,fun _ h=>h,fun _ h=>.inl h,fun b h=>Nat.lt_of_lt_of_le (hM b h) hb.size,hb,?_⟩
  cases out with
  |ret v=>exact⟨_,rfl,BN h2⟩
  |pan v=>exact⟨_,rfl,BN h2⟩
def wB (x:Int):Bool:=decide (0≤x)&&decide (x<18446744073709551616)
theorem bq {x:Int}:wB x=true↔bH x:=by simp[wB,bH]
def wg:Fsp:=fun _ args k=>match args with
 | [.int .u64 x,.int .u64 y]=>bif wB x&&wB y then k (.ret (.tup [uN (hiW (x*y)),uN (loW (x*y))])) else none
 |_=>none
theorem GY:FspOk Tryz.prog 125 wg:=kw (by intro α args k; unfold wg; split<;>simp only[ak,Option.bind_some,Option.bind_none]) (fun args w=>by kernel_rfl) fun args out h=>by
 unfold wg at h
 split at h
 ·rename_i x y
  cases hw:wB x&&wB y
  ·rw[hw] at h; cases h
  ·rw[hw] at h; cases h
   simp only[Bool.and_eq_true,bq] at hw
   refine⟨rfl,rfl,fun w=>(P0 x y hw.1 hw.2 w).mono ?_⟩
   rintro e w' ⟨rfl,rfl⟩
   exact⟨rfl,Below.refl _ _⟩
 ·cases h
def uz:Fsp:=fun _ args k=>match args with
 | [.int .u64 x,.int .u64 y]=>bif wB x&&wB y then k (.ret (.agg [uN (hiW (x*y)),uN (loW (x*y))])) else none
 |_=>none
theorem zx:FspOk Tryz.prog 71 uz:=kw (by intro α args k; unfold uz; split<;>simp only[ak,Option.bind_some,Option.bind_none]) (fun args w=>by kernel_rfl) fun args out h=>by
 unfold uz at h
 split at h
 ·rename_i x y
  cases hw:wB x&&wB y
  ·rw[hw] at h; cases h
  ·rw[hw] at h; cases h
   simp only[Bool.and_eq_true,bq] at hw
   refine⟨rfl,rfl,fun w=>(GX x y w hw.1 hw.2).mono ?_⟩
   rintro e w' ⟨rfl,hb⟩
   exact⟨rfl,hb⟩
 ·cases h
def zy:Fsp:=fun _ args k=>match args with
 | [.agg [.int .u64 a,.int .u64 b],.agg [.int .u64 c,.int .u64 d]]=>k (.ret (.int .i64 (orI (rN a c) (rN b d))))
 |_=>none
theorem rP:FspOk Tryz.prog 123 zy:=kw (by intro α args k; unfold zy; split<;>rfl) (fun args w=>by kernel_rfl) fun args out h=>by
 unfold zy at h
 split at h
 ·rename_i a b c d
  cases h
  refine⟨rfl,rfl,fun w=>(BU a b c d w).mono ?_⟩
  rintro e w' ⟨rfl,hb⟩
  exact⟨rfl,hb⟩
 ·cases h
def Es:Fsp:=fun _ args k=>match args with
 | [.agg [.int .u64 h,.int .u64 l],.int .u64 d]=>bif wB h&&wB l&&wB d then (bif decide (d≤h) then k (.ret (.tup [uN 0,uN 0,bN false])) else k (.ret (.tup [uN (fQ h l d),uN (bA h l d),bN true]))) else none
 |_=>none
theorem Lj:FspOk Tryz.prog 199 Es:=kw (by intro α args k; unfold Es; split<;>simp only[ak,Option.bind_some,Option.bind_none]) (fun args w=>by kernel_rfl) fun args out h=>by
 unfold Es at h
 split at h
 ·rename_i x y d
  cases hw:wB x&&wB y&&wB d
  ·rw[hw] at h; cases h
  ·rw[hw] at h
   simp only[Bool.and_eq_true,bq] at hw
   by_cases hd:d≤x
   ·rw[decide_eq_true hd] at h; cases h
    refine⟨rfl,rfl,fun w=>(OT x y d w hd).mono ?_⟩
    rintro e w' ⟨rfl,hb⟩
    exact⟨rfl,hb⟩
   ·rw[decide_eq_false hd] at h; cases h
    refine⟨rfl,rfl,fun w=>(Li x y d w hw.1.1.1 hw.1.2 hw.2.2 (by omega)).mono ?_⟩
    rintro e w' ⟨rfl,hb⟩
    exact⟨rfl,hb⟩
 ·cases h
def wj:Fsp:=fun _ args k=>match args with
 | [.int .u64 x,.int .u64 y,.int .u64 c]=>bif wB x&&wB y&&(decide (0≤c)&&decide (c≤1)) then k (.ret (.tup [uN ((x+y+c) % 18446744073709551616),uN ((x+y+c) / 18446744073709551616)])) else none
 |_=>none
theorem GZ (cv:Cv) (h:CvOk Tryz.prog cv) (caps:List AVal):CvAt Tryz.prog (BO wj cv) (.fn 239 caps):=K8 (by intro α args k; unfold wj; split<;>simp only[ak,Option.bind_some,Option.bind_none]) (fun args r h=>by
 unfold wj at h
 split at h
 ·rename_i x y c
  cases hw:wB x&&wB y&&(decide (0≤c)&&decide (c≤1))
  ·rw[hw] at h; cases h
  ·rw[hw] at h; cases h
   simp only[Bool.and_eq_true,bq,decide_eq_true_eq] at hw
   exact⟨_,rfl,⟨_,rfl,fun f cs=>by simp⟩,rfl,rfl,fun w=>Tt x y c hw.1.1.1 hw.1.2.1 hw.2.1 hw.2.2 w⟩
 ·cases h) cv h caps
theorem Tw (x y b:Nat) (hb:b≤1) (w:World):(callFunc 296 #[.int .u64 x,.int .u64 y,.int .u64 b]).run Tryz.prog w =
  .ok (.value (.tuple #[.int .u64 (((x+18446744073709551616-y-b) % 18446744073709551616:Nat):Int),.int .u64 ((if x<y+b then 1 else 0:Nat):Int)])) w:=by
 rw[run_callFunc_extern Tryz.func296 (by kernel_rfl) (by kernel_rfl) (by kernel_rfl) (e:=sub64Entry) (by kernel_rfl),run_sub64 x y b hb]
 rfl
def wk:Fsp:=fun _ args k=>match args with
 | [.int .u64 x,.int .u64 y,.int .u64 c]=>bif wB x&&wB y&&(decide (0≤c)&&decide (c≤1)) then k (.ret (.tup [uN ((x-y-c) % 18446744073709551616),uN (if x<y+c then 1 else 0)])) else none
 |_=>none
theorem G0 (cv:Cv) (h:CvOk Tryz.prog cv) (caps:List AVal):CvAt Tryz.prog (BO wk cv) (.fn 296 caps):=K8 (by intro α args k; unfold wk; split<;>simp only[ak,Option.bind_some,Option.bind_none]) (fun args r h=>by
 unfold wk at h
 split at h
 ·rename_i x y c
  cases hw:wB x&&wB y&&(decide (0≤c)&&decide (c≤1))
  ·rw[hw] at h; cases h
  ·rw[hw] at h; cases h
   simp only[Bool.and_eq_true,bq,decide_eq_true_eq] at hw
   refine⟨_,rfl,⟨_,rfl,fun f cs=>by simp⟩,rfl,rfl,fun w=>?_⟩
   obtain⟨⟨⟨h1,h2⟩,h3,h4⟩,h5,h6⟩:=hw
   obtain⟨x,rfl⟩:=Int.eq_ofNat_of_zero_le h1
   obtain⟨y,rfl⟩:=Int.eq_ofNat_of_zero_le h3
   obtain⟨c,rfl⟩:=Int.eq_ofNat_of_zero_le h5
   refine (Tw x y c (by omega) w).trans ?_
   have e1:(((x+18446744073709551616-y-c) % 18446744073709551616:Nat):Int)=((x:Int)-y-c) % 18446744073709551616:=by omega
   have e2:((if x<y+c then 1 else 0:Nat):Int)=if (x:Int)<y+c then 1 else 0:=by split<;>split<;>omega
   rw[e1,e2]
   rfl
 ·cases h) cv h caps
noncomputable def spA:FuncId→Option (Cv→Cv):=fun g=>if g=239 then some (BO wj) else
 if g=296 then some (BO wk) else
 none
theorem ec:jb spA:=ea GZ <|
 ea G0 <|
 BQ
def fsA:FuncId→Option Fsp:=fun g=>if g=125 then some wg else
 if g=71 then some uz else
 if g=123 then some zy else
 if g=199 then some Es else
 none
theorem lm:aD fsA:=ae GY <|
 ae zx <|
 ae rP <|
 ae Lj <|
 BP
theorem BV (n:Int) (h:-9223372036854775808≤n∧n≤9223372036854775807):IntKind.i64.wrap n=n:=by rw[IntKind.wrap_i64]; omega
theorem wl (n:Int) (h:0≤n∧n≤18446744073709551615):IntKind.u64.wrap n=n:=by rw[IntKind.wrap_u64]; omega
def vw (h l:Int):Int:=h*18446744073709551616+l
theorem fI (n:Int):vw (hiW n) (loW n)=n:=mH n
def i6 (x:Int):Bool:=decide (-9223372036854775808≤x)&&decide (x≤9223372036854775807)
theorem nN {x:Int}:i6 x=true↔-9223372036854775808≤x∧x≤9223372036854775807:=by simp[i6]
theorem cK {x:Int} (h:okB x=true):i6 x=true:=by rw[d8] at h; rw[nN]; omega
theorem ip {x:Int} (h:i6 x=true):wB (ab x)=true:=by rw[nN] at h; rw[bq]; unfold bH ab; split<;>omega
theorem iq {n:Int} (h:0≤n∧n<340282366920938463463374607431768211456):wB (hiW n)=true:=bq.2 (zw h.1 h.2)
theorem jm (n:Int):wB (loW n)=true:=bq.2 (mG n)
def oK:Fsp:=fun _ args k=>match args with
 | [.int .i64 x]=>bif i6 x then k (.ret (.int .u64 (ab x))) else none
 |_=>none
theorem rQ {α:Type} (x:Int) (hx:i6 x=true) (k:AOut→Option α):(bif decide (x<0) then k (AOut.ret (AVal.int IntKind.u64 (IntKind.u64.wrap (0-IntKind.u64.wrap x)))) else k (AOut.ret (AVal.int IntKind.u64 (IntKind.u64.wrap x))))=k (.ret (.int .u64 (ab x))):=by
 rw[nN] at hx
 unfold ab
 by_cases h:x<0
 ·rw[decide_eq_true h,if_pos h,cond_true,IntKind.wrap_u64,IntKind.wrap_u64]
  congr 3; omega
 ·rw[decide_eq_false h,if_neg h,cond_false,wl _ (by omega)]
theorem G1 (N n:Nat) (α:Type) (x:Int) (k:AOut→Option α):am real tab ((twT fsA spA).env real tab N n) N Tryz.f171 α [iN x] k =
 bif decide (x<0) then k (AOut.ret (AVal.int IntKind.u64 (IntKind.u64.wrap (0-IntKind.u64.wrap x)))) else k (AOut.ret (AVal.int IntKind.u64 (IntKind.u64.wrap x))):=by
 kernel_rfl
theorem Lk:FspOk Tryz.prog 171 oK:=ar lm ec ⟨Tryz.func171,fun _ _=>by kernel_rfl⟩ (by intro α args k; unfold oK; split<;>simp only[ak,Option.bind_some,Option.bind_none]) fun args out hs h=>by
 unfold oK at h
 split at h
 ·rename_i x
  cases hx:i6 x
  ·rw[hx] at h; cases h
  ·rw[hx] at h; exact⟨1,1,(G1 1 1 AOut x some).trans ((rQ x hx some).trans h)⟩
 ·cases h
theorem BW (N n:Nat) (α:Type) (x:Int) (k:AOut→Option α):am real tab ((twT fsA spA).env real tab N n) N Tryz.f172 α [iN x] k =
 bif decide (x<0) then k (AOut.ret (AVal.int IntKind.u64 (IntKind.u64.wrap (0-IntKind.u64.wrap x)))) else k (AOut.ret (AVal.int IntKind.u64 (IntKind.u64.wrap x))):=by
 kernel_rfl
theorem G2:FspOk Tryz.prog 172 oK:=ar lm ec ⟨Tryz.func172,fun _ _=>by kernel_rfl⟩ (by intro α args k; unfold oK; split<;>simp only[ak,Option.bind_some,Option.bind_none]) fun args out hs h=>by
 unfold oK at h
 split at h
 ·rename_i x
  cases hx:i6 x
  ·rw[hx] at h; cases h
  ·rw[hx] at h; exact⟨1,1,(BW 1 1 AOut x some).trans ((rQ x hx some).trans h)⟩
 ·cases h
def pA:Fsp:=fun _ args k=>match args with
 | [.int .u64 n,.bool neg]=>bif wB n then (bif fxB n then k (i1 (sg neg n)) else k (mis fxm 4)) else none
 |_=>none
theorem BX {n:Int} (neg:Bool) (h0:0≤n) (h1:n≤70368744177664) {α:Type} (k:AOut→Option α):(bif neg then k (AOut.ret (AVal.int IntKind.i64 (IntKind.i64.wrap (0-IntKind.i64.wrap n)))) else k (AOut.ret (AVal.int IntKind.i64 (IntKind.i64.wrap n))))=k (i1 (sg neg n)):=by
 cases neg
 ·rw[cond_false,BV _ (by omega)]; rfl
 ·rw[cond_true,BV n (by omega),BV _ (by omega),Int.zero_sub]; rfl
theorem zA (N n:Nat) (α:Type) (x:Int) (b:Bool) (k:AOut→Option α):am real tab ((twT fsA spA).env real tab N (n+1)) N Tryz.f124 α [uN x,.bool b] k =
 bif !decide (x≤70368744177664) then k (mis fxm 4) else bif b then k (AOut.ret (AVal.int IntKind.i64 (IntKind.i64.wrap (0-IntKind.i64.wrap x)))) else k (AOut.ret (AVal.int
 IntKind.i64 (IntKind.i64.wrap x))):=by kernel_rfl
theorem BZ:FspOk Tryz.prog 124 pA:=ar lm ec ⟨Tryz.func124,fun _ _=>by kernel_rfl⟩ (by intro α args k; unfold pA; split<;>simp only[ak,Option.bind_some,Option.bind_none]) fun args out hs h=>by
 unfold pA at h
 split at h
 ·rename_i x b
  cases hx:wB x
  ·rw[hx] at h; cases h
  ·rw[hx] at h
   rw[bq] at hx
   refine⟨1,2,(zA 1 1 AOut x b some).trans ?_⟩
   rw[cond_true] at h
   rw[←h]
   unfold fxB
   by_cases hd:x≤70368744177664
   ·rw[decide_eq_true hd,Bool.not_true,cond_false,cond_true,BX b hx.1 hd]
   ·rw[decide_eq_false hd,Bool.not_false,cond_false,cond_true]
 ·cases h
def wm:Fsp:=fun _ args k=>match args with
 | [.ro (.int .i64) xs]=>bif List.all (α:=Int) xs okB then k t0 else k (mis fxm 2)
 |_=>none
theorem B0 (N n:Nat) (α:Type) (x:List Int) (k:AOut→Option α):am real tab ((twT fsA spA).env real tab N (n+1)) N Tryz.f67 α [.ro (.int .i64) x] k =
 ag (af N (fun y:Int × Unit=>bif decide (y.1<(x.length:Int)) then if 0≤y.1∧y.1<(x.length:Int) then bif decide (x.getD y.1.toNat (Int.ofNat 0) ≥
 -70368744177664) then bif !decide (x.getD y.1.toNat (Int.ofNat 0)≤70368744177664) then finL (k (mis fxm 2)) else some (LRes.cont (IntKind.i64.wrap (y.1+1),())) else finL (k
 (mis fxm 2)) else none else some (LRes.brk 0 (y.1,()))) (0,())) fun id _=>if id=0 then k (AOut.ret (AVal.tup [])) else none:=by kernel_rfl
theorem zB {α:Type} (x:List Int) (hl:x.length≤maxLen) (k:AOut→Option α):am real tab ((twT fsA spA).env real tab (x.length+1) 2) (x.length+1) Tryz.f67 α [.ro (.int .i64) x] k=bif x.all okB then k t0 else k (mis fxm 2):=by
 rw[B0]
 generalize hf:(fun y:Int × Unit=>(_:Option (LRes (Int × Unit) α)))=f
 have e:af (x.length+1) f (0,())=bif (List.range x.length).any (fun i=>!okB (x.getD i 0)) then finL (k (mis fxm 2)) else some (.brk 0 ((x.length:Int),())):=by
  refine uo (f:=f) (fun i:Nat=>((i:Int),())) _ (mB _) (ku _ _) x.length (fun i hi=>?_) ?_
  ·rw[←hf]
   have h1:decide ((i:Int)<(x.length:Int))=true:=decide_eq_true (by omega)
   have h2:IntKind.i64.wrap ((i:Int)+1)=((i+1:Nat):Int):=gB (n:=i+1) (by omega)
   simp only[h1,cond_true,h2,show Int.ofNat 0=0 from rfl,show ((i:Int)).toNat=i from rfl]
   rw[if_pos ⟨by omega,by omega⟩]
   unfold okB
   by_cases a:-70368744177664≤x.getD i 0
   ·rw[decide_eq_true a]
    cases decide (x.getD i 0≤70368744177664)<;>rfl
   ·rw[decide_eq_false a]; rfl
  ·rw[←hf]
   have h1:decide ((x.length:Int)<(x.length:Int))=false:=decide_eq_false (by omega)
   simp only[h1,cond_false]
 rw[e,GR x fun n=>!okB n]
 have:x.any (fun n=>!okB n)=!x.all okB:=by rw[List.not_all_eq_any_not]
 rw[this]
 cases x.all okB
 ·simp only[Bool.not_false,cond_true,cond_false]
  cases k (mis fxm 2)<;>rfl
 ·rfl
theorem G3:FspOk Tryz.prog 67 wm:=ar lm ec ⟨Tryz.func67,fun _ _=>by kernel_rfl⟩ (by intro α args k; unfold wm; split<;>simp only[ak,Option.bind_some,Option.bind_none]) fun args out hs h=>by
 unfold wm at h
 split at h
 ·rename_i x
  exact⟨_,2,(zB x (hs _ (by simp)).len some).trans h⟩
 ·cases h
def Et:Fsp:=fun _ args k=>match args with
 | [.agg [.int .u64 a,.int .u64 b],.agg [.int .u64 c,.int .u64 d]]=>bif wB a&&wB b&&wB c&&wB d&&decide (vw a b+vw c d<340282366920938463463374607431768211456) then k (.ret (.agg [uN (hiW (vw a b+vw c d)),uN (loW (vw a b+vw c d))])) else none
 |_=>none
theorem G4 (N n:Nat) (α:Type) (a b c d:Int) (k:AOut→Option α):am real tab ((twT fsA spA).env real tab N (n+1)) N Tryz.f200 α [.agg [uN a,uN b],.agg [uN c,uN d]] k =
 bif wB b&&wB d&&(decide ((0:Int)≤0)&&decide ((0:Int)≤1)) then bif wB a&&wB c&&(decide (0≤(b+d+0) / 18446744073709551616)&&decide ((b+d+0) /
 18446744073709551616≤1)) then k (AOut.ret (AVal.agg [AVal.int IntKind.u64 ((a+c+(b+d+0) / 18446744073709551616) % 18446744073709551616),AVal.int IntKind.u64 ((b+d+0)
 % 18446744073709551616)])) else none else none:=by kernel_rfl
theorem Ll:FspOk Tryz.prog 200 Et:=ar lm ec ⟨Tryz.func200,fun _ _=>by kernel_rfl⟩ (by intro α args k; unfold Et; split<;>simp only[ak,Option.bind_some,Option.bind_none]) fun args out hs h=>by
 unfold Et at h
 split at h
 ·rename_i a b c d
  cases hx:wB a&&wB b&&wB c&&wB d&&decide (vw a b+vw c d<340282366920938463463374607431768211456)
  ·rw[hx] at h; cases h
  ·rw[hx,cond_true] at h
   refine⟨1,2,(G4 1 1 AOut a b c d some).trans (Eq.trans ?_ h)⟩
   simp only[Bool.and_eq_true,decide_eq_true_eq] at hx
   obtain⟨⟨⟨⟨h1,h2⟩,h3⟩,h4⟩,h5⟩:=hx
   rw[h1,h2,h3,h4]
   rw[bq] at h1 h2 h3 h4
   unfold bH at h1 h2 h3 h4
   unfold vw at h5
   rw[decide_eq_true (show (0:Int)≤(b+d+0) / 18446744073709551616 by omega),decide_eq_true (show (b+d+0) / 18446744073709551616≤1 by omega)]
   have e1:(a+c+(b+d+0) / 18446744073709551616) % 18446744073709551616=hiW (vw a b+vw c d):=by unfold hiW vw; omega
   have e2:(b+d+0) % 18446744073709551616=loW (vw a b+vw c d):=by unfold loW vw; omega
   rw[e1,e2]
   rfl
 ·cases h
def wn:Fsp:=fun _ args k=>match args with
 | [.agg [.int .u64 a,.int .u64 b],.agg [.int .u64 c,.int .u64 d]]=>bif wB a&&wB b&&wB c&&wB d&&decide (vw c d≤vw a b) then k (.ret (.agg [uN (hiW (vw a b-vw c d)),uN (loW (vw a b-vw c d))])) else none
 |_=>none
theorem B1 (N n:Nat) (α:Type) (a b c d:Int) (k:AOut→Option α):am real tab ((twT fsA spA).env real tab N (n+1)) N Tryz.f279 α [.agg [uN a,uN b],.agg [uN c,uN d]] k =
 bif wB b&&wB d&&(decide ((0:Int)≤0)&&decide ((0:Int)≤1)) then bif wB a&&wB c&&(decide ((0:Int)≤if b<d+0 then 1 else 0)&&decide ((if b<d+0 then 1 else
 0)≤(1:Int))) then k (AOut.ret (AVal.agg [AVal.int IntKind.u64 ((a-c-if b<d+0 then 1 else 0) % 18446744073709551616),AVal.int IntKind.u64 ((b-d-0) %
 18446744073709551616)])) else none else none:=by kernel_rfl
theorem G5:FspOk Tryz.prog 279 wn:=ar lm ec ⟨Tryz.func279,fun _ _=>by kernel_rfl⟩ (by intro α args k; unfold wn; split<;>simp only[ak,Option.bind_some,Option.bind_none]) fun args out hs h=>by
 unfold wn at h
 split at h
 ·rename_i a b c d
  cases hx:wB a&&wB b&&wB c&&wB d&&decide (vw c d≤vw a b)
  ·rw[hx] at h; cases h
  ·rw[hx,cond_true] at h
   refine⟨1,2,(B1 1 1 AOut a b c d some).trans (Eq.trans ?_ h)⟩
   simp only[Bool.and_eq_true,decide_eq_true_eq] at hx
   obtain⟨⟨⟨⟨h1,h2⟩,h3⟩,h4⟩,h5⟩:=hx
   rw[h1,h2,h3,h4]
   rw[bq] at h1 h2 h3 h4
   unfold bH at h1 h2 h3 h4
   unfold vw at h5
   have e0:∃z:Int,(if b<d+0 then 1 else 0)=z∧(z=0∧d≤b∨z=1∧b<d):=⟨_,rfl,by split<;>omega⟩
   obtain⟨z,hz,hz'⟩:=e0
   rw[hz,decide_eq_true (show (0:Int)≤z by omega),decide_eq_true (show z≤1 by omega)]
   have e1:(a-c-z) % 18446744073709551616=hiW (vw a b-vw c d):=by unfold hiW vw; omega
   have e2:(b-d-0) % 18446744073709551616=loW (vw a b-vw c d):=by unfold loW vw; omega
   rw[e1,e2]
   rfl
 ·cases h
theorem RT {a b c d:Int} (hb:bH b) (hd:bH d):orI (rN a c) (rN b d)=ja (vw a b) (vw c d):=by
 unfold bH at hb hd
 unfold orI rN ja vw
 repeat' split
 all_goals omega
def uA:Fsp:=fun _ args k=>match args with
 | [.agg [.int .u64 a,.int .u64 b],.agg [.int .u64 c,.int .u64 d]]=>bif wB b&&wB d then k (.ret (.int .i64 (ja (vw a b) (vw c d)))) else none
 |_=>none
theorem zC:FspOk Tryz.prog 123 uA where
 enter:=rP.enter
 nat:=by intro α args k; unfold uA; split<;>simp only[ak,Option.bind_some,Option.bind_none]
 calls:=fun args out h=>rP.calls args out (by
  unfold uA at h
  split at h
  ·rename_i a b c d
   cases hx:wB b&&wB d
   ·rw[hx] at h; cases h
   ·rw[hx] at h; cases h
    simp only[Bool.and_eq_true,bq] at hx
    simp only[zy,RT hx.1 hx.2]
  ·cases h)
def uB (g:Nat):Option Int:=
 if g=117 then some 0 else
 if g=118 then some 1 else
 if g=119 then some 2 else
 if g=120 then some 3 else
 none
def fsB:FuncId→Option Fsp:=fun g=>
 if g=171 then some oK else
 if g=172 then some oK else
 if g=124 then some pA else
 if g=67 then some wm else
 if g=200 then some Et else
 if g=279 then some wn else
 if g=123 then some uA else fsA g
theorem B2:aD fsB:=
 ae Lk <|
 ae G2 <|
 ae BZ <|
 ae G3 <|
 ae Ll <|
 ae G5 <|
 ae zC <|
 lm
def gC (how:Int) (neg:Bool) (n d:Int):Int:=bif decide (n / d<18446744073709551616) then rnd how neg n d % 18446744073709551616 else 18446744073709551616
def gD {α:Type} (neg:Bool) (n:Int) (k:AOut→Option α):Option α:=bif fxB n then k (i1 (sg neg n)) else k (mis fxm 4)
def jr {α:Type} (q:Int) (neg:Bool) (k:AOut→Option α):Option α:=bif wB q then gD neg q k else none
theorem kx {α β:Type} (neg:Bool) (n:Int) (k:AOut→Option α) (K:α→Option β):(gD neg n k).bind K=gD neg n fun o=>(k o).bind K:=by unfold gD; rw[ak]
def Eu:Fsp:=fun _ args k=>match args with
 | [.agg [.int .u64 h,.int .u64 l],.int .u64 d,.bool neg,.fn g []]=>
   match uB g with
   |some how=>bif wB h&&wB l&&wB d&&decide (0<d) then gD neg (gC how neg (vw h l) d) k else none
   |none=>none
 |_=>none
theorem wo {α:Type} {q:Int} (neg:Bool) (k:AOut→Option α) (h:0≤q∧q<18446744073709551616):jr q neg k=gD neg q k:=by
 unfold jr
 rw[bq.2 h,cond_true]
theorem Ev {h l d:Int}:bA h l d=vw h l % d:=rfl
theorem Lm {how:Int} {neg:Bool} {h l d:Int} (h0:0<d) (hl:bH l) (hd:d≤h) {α:Type} (k:AOut→Option α):gD neg (gC how neg (vw h l) d) k=k (mis fxm 4):=by
 have:¬vw h l / d<18446744073709551616:=by
  have e:18446744073709551616*d≤vw h l:=by unfold vw; unfold bH at hl; omega
  have:=Int.le_ediv_of_mul_le h0 e
  omega
 unfold gC
 rw[decide_eq_false this]
 rfl
theorem rR {how:Int} {neg:Bool} {h l d:Int} (hh:bH h) (hl:bH l) (hd:h<d) {b:Bool} (hb:up1 how neg (bA h l d) d=b):gC how neg (vw h l) d=(fQ h l d+bif b then 1 else 0) % 18446744073709551616∧0≤fQ h l d∧fQ h l d<18446744073709551616:=by
 unfold bH at hh hl
 have h1:vw h l / d<18446744073709551616:=by
  refine Int.ediv_lt_of_lt_mul (by omega) ?_
  unfold vw
  have:(h+1)*18446744073709551616≤d*18446744073709551616:=Int.mul_le_mul_of_nonneg_right (by omega) (by omega)
  rw[Int.mul_comm 18446744073709551616]
  omega
 have h2:0≤vw h l / d:=Int.ediv_nonneg (by unfold vw; omega) (by omega)
 refine⟨?_,h2,h1⟩
 unfold gC rnd
 rw[decide_eq_true h1,cond_true,←Ev,hb]
 rfl
theorem OU {α:Type} {q:Int} (neg b:Bool) (k:AOut→Option α) (h:0≤q∧q<18446744073709551616):(bif b then jr (IntKind.u64.wrap (q+1)) neg k else jr q neg k)=gD neg ((q+bif b then 1 else 0) % 18446744073709551616) k:=by
 cases b
 ·rw[cond_false,cond_false,wo _ _ h,Int.add_zero,show q % 18446744073709551616=q by omega]
 ·rw[cond_true,cond_true,IntKind.wrap_u64,wo _ _ (by omega)]
theorem jd {α:Type} {h l d:Int} {neg:Bool} {how:Int} (hx:(wB h&&wB l&&wB d&&decide (0<d))=true) (m:Bool) (hm:0<bA h l d→up1 how neg (bA h l d) d=m) (k:AOut→Option α) (M:Option α)
  (hM:M=bif m then jr (IntKind.u64.wrap (fQ h l d+1)) neg k else jr (fQ h l d) neg k) :
  (bif wB h&&wB l&&wB d then
   bif decide (d≤h) then k (mis fxm 4)
   else
    bif decide (bA h l d>0) then
     bif wB 0&&wB (bA h l d)&&wB 0&&wB (bA h l d)&&decide (vw 0 (bA h l d)+vw 0 (bA h l d)<340282366920938463463374607431768211456) then
      bif wB (loW (vw 0 (bA h l d)+vw 0 (bA h l d)))&&wB d then M
      else none
     else none
    else jr (fQ h l d) neg k
  else none)=gD neg (gC how neg (vw h l) d) k:=by
 simp only[Bool.and_eq_true,decide_eq_true_eq] at hx
 obtain⟨⟨⟨h1,h2⟩,h3⟩,h4⟩:=hx
 rw[h1,h2,h3]
 rw[bq] at h1 h2 h3
 simp only[Bool.and_self,cond_true]
 by_cases hd:d≤h
 ·rw[decide_eq_true hd,cond_true,Lm h4 h2 hd]
 ·rw[decide_eq_false hd,cond_false]
  have r0:=Int.emod_nonneg (vw h l) (show d≠0 by omega)
  have r1:=Int.emod_lt_of_pos (vw h l) h4
  rw[←Ev] at r0 r1
  by_cases hr:0<bA h l d
  ·have hw:wB (bA h l d)=true:=bq.2 (by unfold bH at *; omega)
   rw[decide_eq_true (show bA h l d>0 from hr),cond_true,hw,bq.2 (show bH 0 by unfold bH; omega),decide_eq_true (show vw 0 (bA h l d)+vw 0 (bA h l d)<340282366920938463463374607431768211456 by unfold vw; unfold bH at h3; omega),jm]
   simp only[Bool.and_self,cond_true,hM]
   obtain⟨e1,e2⟩:=rR (neg:=neg) h1 h2 (by omega) (hm hr)
   rw[OU _ _ _ e2,e1]
  ·rw[decide_eq_false (show ¬bA h l d>0 from hr),cond_false]
   have hu:up1 how neg (bA h l d) d=false:=by unfold up1; rw[decide_eq_false hr]; rfl
   obtain⟨e1,e2⟩:=rR (neg:=neg) h1 h2 (by omega) hu
   rw[wo _ _ e2,e1,cond_false,Int.add_zero,show fQ h l d % 18446744073709551616=fQ h l d by omega]
theorem B3 (N n:Nat) (α:Type) (h l d:Int) (neg:Bool) (k:AOut→Option α):am real tab ((twT fsB spA).env real tab N (n+2)) N Tryz.f170 α [.agg [uN h,uN l],uN d,.bool neg,.fn 117 []] k =
 bif wB h&&wB l&&wB d then bif decide (d≤h) then k (mis fxm 4) else bif decide (bA h l d>0) then bif wB 0&&wB (bA h l d)&&wB 0&&wB (bA h l d)&&decide (vw 0
 (bA h l d)+vw 0 (bA h l d)<340282366920938463463374607431768211456) then bif wB (loW (vw 0 (bA h l d)+vw 0 (bA h l d)))&&wB d then jr (fQ h l d) neg k else none
 else none else jr (fQ h l d) neg k else none:=by kernel_rfl
theorem zD (N n:Nat) (α:Type) (h l d:Int) (neg:Bool) (hx:(wB h&&wB l&&wB d&&decide (0<d))=true) (k:AOut→Option α):am real tab ((twT fsB spA).env real tab N (n+2)) N Tryz.f170 α [.agg [uN h,uN l],uN d,.bool neg,.fn 117 []] k=gD neg (gC 0 neg (vw h l) d) k:=
 (B3 N n α h l d neg k).trans (jd hx (false) (fun hr=>by unfold up1; rw[decide_eq_true hr]; rfl) k _ rfl)
theorem B4 (N n:Nat) (α:Type) (h l d:Int) (neg:Bool) (k:AOut→Option α):am real tab ((twT fsB spA).env real tab N (n+2)) N Tryz.f170 α [.agg [uN h,uN l],uN d,.bool neg,.fn 118 []] k =
 bif wB h&&wB l&&wB d then bif decide (d≤h) then k (mis fxm 4) else bif decide (bA h l d>0) then bif wB 0&&wB (bA h l d)&&wB 0&&wB (bA h l d)&&decide (vw 0
 (bA h l d)+vw 0 (bA h l d)<340282366920938463463374607431768211456) then bif wB (loW (vw 0 (bA h l d)+vw 0 (bA h l d)))&&wB d then bif neg then jr
 (IntKind.u64.wrap (fQ h l d+1)) neg k else jr (fQ h l d) neg k else none else none else jr (fQ h l d) neg k else none:=by kernel_rfl
theorem zE (N n:Nat) (α:Type) (h l d:Int) (neg:Bool) (hx:(wB h&&wB l&&wB d&&decide (0<d))=true) (k:AOut→Option α):am real tab ((twT fsB spA).env real tab N (n+2)) N Tryz.f170 α [.agg [uN h,uN l],uN d,.bool neg,.fn 118 []] k=gD neg (gC 1 neg (vw h l) d) k:=
 (B4 N n α h l d neg k).trans (jd hx (neg) (fun hr=>by unfold up1; rw[decide_eq_true hr]; rfl) k _ rfl)
theorem B5 (N n:Nat) (α:Type) (h l d:Int) (neg:Bool) (k:AOut→Option α):am real tab ((twT fsB spA).env real tab N (n+2)) N Tryz.f170 α [.agg [uN h,uN l],uN d,.bool neg,.fn 119 []] k =
 bif wB h&&wB l&&wB d then bif decide (d≤h) then k (mis fxm 4) else bif decide (bA h l d>0) then bif wB 0&&wB (bA h l d)&&wB 0&&wB (bA h l d)&&decide (vw 0
 (bA h l d)+vw 0 (bA h l d)<340282366920938463463374607431768211456) then bif wB (loW (vw 0 (bA h l d)+vw 0 (bA h l d)))&&wB d then bif !neg then jr
 (IntKind.u64.wrap (fQ h l d+1)) neg k else jr (fQ h l d) neg k else none else none else jr (fQ h l d) neg k else none:=by kernel_rfl
theorem zF (N n:Nat) (α:Type) (h l d:Int) (neg:Bool) (hx:(wB h&&wB l&&wB d&&decide (0<d))=true) (k:AOut→Option α):am real tab ((twT fsB spA).env real tab N (n+2)) N Tryz.f170 α [.agg [uN h,uN l],uN d,.bool neg,.fn 119 []] k=gD neg (gC 2 neg (vw h l) d) k:=
 (B5 N n α h l d neg k).trans (jd hx (!neg) (fun hr=>by unfold up1; rw[decide_eq_true hr]; rfl) k _ rfl)
theorem B6 (N n:Nat) (α:Type) (h l d:Int) (neg:Bool) (k:AOut→Option α):am real tab ((twT fsB spA).env real tab N (n+2)) N Tryz.f170 α [.agg [uN h,uN l],uN d,.bool neg,.fn 120 []] k =
 bif wB h&&wB l&&wB d then bif decide (d≤h) then k (mis fxm 4) else bif decide (bA h l d>0) then bif wB 0&&wB (bA h l d)&&wB 0&&wB (bA h l d)&&decide (vw 0
 (bA h l d)+vw 0 (bA h l d)<340282366920938463463374607431768211456) then bif wB (loW (vw 0 (bA h l d)+vw 0 (bA h l d)))&&wB d then bif decide (ja (vw (hiW (vw 0
 (bA h l d)+vw 0 (bA h l d))) (loW (vw 0 (bA h l d)+vw 0 (bA h l d)))) (vw 0 d)≥0) then jr (IntKind.u64.wrap (fQ h l d+1)) neg k else jr (fQ h l d) neg k else
 none else none else jr (fQ h l d) neg k else none:=by kernel_rfl
theorem zG (N n:Nat) (α:Type) (h l d:Int) (neg:Bool) (hx:(wB h&&wB l&&wB d&&decide (0<d))=true) (k:AOut→Option α):am real tab ((twT fsB spA).env real tab N (n+2)) N Tryz.f170 α [.agg [uN h,uN l],uN d,.bool neg,.fn 120 []] k=gD neg (gC 3 neg (vw h l) d) k:=
 (B6 N n α h l d neg k).trans (jd hx (decide (ja (vw (hiW (vw 0 (bA h l d)+vw 0 (bA h l d))) (loW (vw 0 (bA h l d)+vw 0 (bA h l d)))) (vw 0 d)≥0)) (fun hr=>by
  unfold up1; rw[decide_eq_true hr,fI]
  show decide (d≤bA h l d+bA h l d)=_
  rw[decide_eq_decide]; unfold ja vw; repeat' split
  all_goals omega) k _ rfl)
theorem ky {g:Nat} {how:Int} (h:uB g=some how):False
 ∨ (g=117∧how=0)
 ∨ (g=118∧how=1)
 ∨ (g=119∧how=2)
 ∨ (g=120∧how=3)
 := by
 unfold uB at h
 repeat' split at h
 all_goals first|(cases h; simp[*]; done)|cases h
theorem Ln:FspOk Tryz.prog 170 Eu:=ar B2 ec ⟨Tryz.func170,fun _ _=>by kernel_rfl⟩ (by intro α args k; unfold Eu; split<;>(try split)<;>simp only[ak,kx,Option.bind_some,Option.bind_none]) fun args out hs h=>by
 unfold Eu at h
 split at h
 ·rename_i h1 l d neg g
  split at h
  ·rename_i how hg
   cases hx:wB h1&&wB l&&wB d&&decide (0<d)
   ·rw[hx] at h; cases h
   ·rw[hx,cond_true] at h
    rcases ky hg with hf
     |⟨rfl,rfl⟩
     |⟨rfl,rfl⟩
     |⟨rfl,rfl⟩
     |⟨rfl,rfl⟩
    ·cases hf
    ·exact⟨1,2,(zD 1 0 AOut h1 l d neg hx some).trans h⟩
    ·exact⟨1,2,(zE 1 0 AOut h1 l d neg hx some).trans h⟩
    ·exact⟨1,2,(zF 1 0 AOut h1 l d neg hx some).trans h⟩
    ·exact⟨1,2,(zG 1 0 AOut h1 l d neg hx some).trans h⟩
  ·cases h
 ·cases h
theorem wq {X Y:Int} (k:Nat) (hX:0≤X∧X<18446744073709551616) (hk:X % (2^k:Nat)=0) (hY:0≤Y∧Y<(2^k:Nat)) (hs:X+Y<18446744073709551616):IntKind.u64.wrap (((BitVec.ofInt 64 X ||| BitVec.ofInt 64 Y).toNat:Nat):Int)=X+Y:=by
 obtain⟨x,rfl⟩:=Int.eq_ofNat_of_zero_le hX.1
 obtain⟨y,rfl⟩:=Int.eq_ofNat_of_zero_le hY.1
 have hy:y<2^k:=by exact_mod_cast hY.2
 have hx:x % 2^k=0:=by exact_mod_cast hk
 have e:x=2^k*(x / 2^k):=by have:=Nat.div_add_mod x (2^k); omega
 have e1:(BitVec.ofInt 64 (x:Int)).toNat=x:=by rw[BitVec.toNat_ofInt]; have:x<18446744073709551616:=by omega
                                               simp; omega
 have e2:(BitVec.ofInt 64 (y:Int)).toNat=y:=by rw[BitVec.toNat_ofInt]; have:y<18446744073709551616:=by omega
                                               simp; omega
 rw[BitVec.toNat_or,e1,e2]
 have e3:x ||| y=x+y:=by
  rw[e,←Nat.two_pow_add_eq_or_of_lt hy]
 rw[e3,wl _ (by omega)]
 omega
theorem je {α:Type} {f:Int × Int × Unit→Option (LRes (Int × Int × Unit) α)} (p:Nat→Bool) (K:Nat)
  (hf:∀n k,n % 2^(k+1)=0→n+2^(k+1)≤2^K→p n=true→f ((n:Int),((2^k:Nat):Int),())=some (.cont (((bif p (n+2^k) then n+2^k else n:Nat):Int),((2^k / 2:Nat):Int),())))
  (hend:∀n:Nat,f ((n:Int),0,())=some (.brk 0 ((n:Int),0,()))) :
  ∀(k:Nat) (n:Nat),n % 2^k=0→n+2^k≤2^K→p n=true→∀N,k<N→af N f ((n:Int),((2^k / 2:Nat):Int),())=some (.brk 0 (((bs p k n:Nat):Int),0,()))
 |0,n,h1,h2,h3,N,hN=>by
  obtain⟨N,rfl⟩:∃M,N=M+1:=⟨N-1,by omega⟩
  have e:(((2^0 / 2:Nat)):Int)=0:=rfl
  rw[e]
  simp only[af,hend]
  rfl
 |k+1,n,h1,h2,h3,N,hN=>by
  obtain⟨N,rfl⟩:∃M,N=M+1:=⟨N-1,by omega⟩
  have e0:2^(k+1) / 2=2^k:=by rw[Nat.pow_succ]; omega
  have e1:2^(k+1)=2^k+2^k:=by rw[Nat.pow_succ]; omega
  have hd:n % 2^k=0:=by
   have:(n % 2^(k+1)) % 2^k=n % 2^k:=Nat.mod_mod_of_dvd _ ⟨2,by rw[Nat.pow_succ]⟩
   rw[h1] at this
   simpa using this.symm
  have hf':=hf n k h1 h2 h3
  rw[e0]
  simp only[af,hf',bs]
  cases hp:p (n+2^k)
  ·exact je p K hf hend k n hd (by omega) h3 N (by omega)
  ·exact je p K hf hend k (n+2^k) (by rw[Nat.add_mod_right]; exact hd) (by omega) hp N (by omega)
def at3 (a b c:Int):Nat→Int
 |0=>a
 |1=>b
 |_=>c
def OV {β:Type} (n:Int) (A:Nat→Option β):Option β:=
 if 0≤n∧n<((3:Nat):Int) then
  bif n==((0:Nat):Int) then A 0 else bif n==((0+1:Nat):Int) then A 1 else bif n==((0+1+1:Nat):Int) then A 2 else none
 else none
def wu {α:Type} (N:Nat) (r q:Nat→Int) (k:AOut→Option α):Option α:=
 ag
  (af N
   (fun x:Int × Unit=>
    bif decide (x.1<3) then
     OV x.1 fun i1=>OV x.1 fun i2=>bif r i1 != q i2 then OV x.1 fun i3=>OV x.1 fun i4=>finL (k (b1 (decide (r i3<q i4)))) else some (LRes.cont (IntKind.i64.wrap (x.1+1),()))
    else some (LRes.brk 0 (x.1,())))
   (0,()))
  fun id _=>if id=0 then k (b1 true) else none
set_option maxRecDepth 100000 in
theorem B7 (N n0:Nat) (α:Type) (n x h l:Int) (k:AOut→Option α):am real tab ((twT fsB spA).env real tab N (n0+2)) N Tryz.f295 α [uN n,.agg [uN h,uN l],uN x] k =
 bif wB (IntKind.u64.wrap (n*n))&&wB l then bif wB (IntKind.u64.wrap (n*n))&&wB h then bif wB (hiW (IntKind.u64.wrap (n*n)*h))&&wB (loW (IntKind.u64.wrap (n*n)*h))
 && wB 0&&wB (hiW (IntKind.u64.wrap (n*n)*l))&&decide (vw (hiW (IntKind.u64.wrap (n*n)*h)) (loW (IntKind.u64.wrap (n*n)*h))+vw 0 (hiW (IntKind.u64.wrap (n*n) *
 l))<340282366920938463463374607431768211456) then bif wB x&&wB x then wu N (at3 (hiW (vw (hiW (IntKind.u64.wrap (n*n)*h)) (loW (IntKind.u64.wrap (n*n)*h))+vw 0
 (hiW (IntKind.u64.wrap (n*n)*l)))) (loW (vw (hiW (IntKind.u64.wrap (n*n)*h)) (loW (IntKind.u64.wrap (n*n)*h))+vw 0 (hiW (IntKind.u64.wrap (n*n)*l)))) (loW
 (IntKind.u64.wrap (n*n)*l))) (at3 ((hiW (x*x)).fdiv (2^min (Int.toNat 32) 64)) (IntKind.u64.wrap (((BitVec.ofInt 64 (IntKind.u64.wrap (hiW (x*x)*2^min (Int.toNat 32)
 64)) ||| BitVec.ofInt 64 ((loW (x*x)).fdiv (2^min (Int.toNat 32) 64))).toNat:Nat):Int)) (IntKind.u64.wrap (loW (x*x)*2^min (Int.toNat 32) 64))) k else none else none
 else none else none:=by kernel_rfl
theorem G6 {α:Type} (N:Nat) (a b c d e f:Int) (k:AOut→Option α):wu (N+4) (at3 a b c) (at3 d e f) k=k (b1 (bif a != d then decide (a<d) else bif b != e then decide (b<e) else bif c != f then decide (c<f) else true)):=by
 unfold wu
 generalize hf:(fun x:Int × Unit=>(_:Option (LRes (Int × Unit) α)))=F
 have h0:F (0,())=bif a != d then finL (k (b1 (decide (a<d)))) else some (LRes.cont (1,())):=by rw[←hf]; rfl
 have h1:F (1,())=bif b != e then finL (k (b1 (decide (b<e)))) else some (LRes.cont (2,())):=by rw[←hf]; rfl
 have h2:F (2,())=bif c != f then finL (k (b1 (decide (c<f)))) else some (LRes.cont (3,())):=by rw[←hf]; rfl
 have h3:F (3,())=some (LRes.brk 0 (3,())):=by rw[←hf]; rfl
 simp only[af,h0]
 cases a != d
 ·simp only[cond_false,h1]
  cases b != e
  ·simp only[cond_false,h2]
   cases c != f
   ·simp only[cond_false,h3]
    rfl
   ·simp only[cond_true]
    cases k (b1 (decide (c<f)))<;>rfl
  ·simp only[cond_true]
   cases k (b1 (decide (b<e)))<;>rfl
 ·simp only[cond_true]
  cases k (b1 (decide (a<d)))<;>rfl
theorem RU {a b c d e f:Int} (hb:bH b) (hc:bH c) (he:bH e) (hf:bH f):(bif a != d then decide (a<d) else bif b != e then decide (b<e) else bif c != f then decide (c<f) else true)=decide ((a*18446744073709551616+b)*18446744073709551616+c≤(d*18446744073709551616+e)*18446744073709551616+f):=by
 unfold bH at hb hc he hf
 by_cases h1:a=d
 ·by_cases h2:b=e
  ·by_cases h3:c=f
   ·subst h1; subst h2; subst h3; simp
   ·have:(c != f)=true:=by simp[h3]
    subst h1; subst h2
    simp only[this,bne_self_eq_false,cond_false,cond_true]
    rw[decide_eq_decide]; omega
  ·have:(b != e)=true:=by simp[h2]
   subst h1
   simp only[this,bne_self_eq_false,cond_false,cond_true]
   rw[decide_eq_decide]; omega
 ·have:(a != d)=true:=by simp[h1]
  simp only[this,cond_true]
  rw[decide_eq_decide]; omega
def blB (n h l x:Int):Bool:=(decide (0≤n)&&decide (n≤131072))&&(wB h&&wB l)&&(decide (0≤x)&&decide (x≤70368744177664))&&decide (vw h l<19807040628566084398385987584)
def wv:Fsp:=fun _ args k=>match args with
 | [.int .u64 n,.agg [.int .u64 h,.int .u64 l],.int .u64 x]=>bif blB n h l x then k (b1 (decide (n*n*vw h l≤4294967296*(x*x)))) else none
 |_=>none
theorem P2 {x B:Int} (h0:0≤x) (h1:x≤B):0≤x*x∧x*x≤B*B:=⟨Int.mul_nonneg h0 h0,Int.mul_le_mul h1 h1 h0 (by omega)⟩
theorem jT (a:Int) {b:Int} (hb:0≤b):a.fdiv b=a / b:=Int.fdiv_eq_ediv_of_nonneg a hb
theorem zH (N n0:Nat) (α:Type) {n x h l:Int} (hb:blB n h l x=true) (k:AOut→Option α):am real tab ((twT fsB spA).env real tab (N+4) (n0+2)) (N+4) Tryz.f295 α [uN n,.agg [uN h,uN l],uN x] k=k (b1 (decide (n*n*vw h l≤4294967296*(x*x)))):=by
 rw[B7]
 simp only[blB,Bool.and_eq_true,decide_eq_true_eq,bq] at hb
 obtain⟨⟨⟨⟨n0',n1⟩,hh,hl⟩,x0,x1⟩,hs⟩:=hb
 obtain⟨m0,m1⟩:=P2 n0' n1
 obtain⟨p0,p1⟩:=P2 x0 x1
 rw[wl (n*n) (by omega)]
 have hm:bH (n*n):=by unfold bH; omega
 have hx:bH x:=by unfold bH; omega
 generalize n*n=m at *
 generalize x*x=P at *
 have q1:=rL hm hh
 have q2:=rL hm hl
 have hsm:m*vw h l=m*h*18446744073709551616+m*l:=by unfold vw; rw[Int.mul_add,Int.mul_assoc]
 have hle:m*vw h l≤17179869184*19807040628566084398385987584:=Int.mul_le_mul m1 (by omega) (by unfold vw bH at *; omega) (by omega)
 have hA:m*h+hiW (m*l)<340282366920938463463374607431768211456:=by unfold hiW; omega
 have ev:vw 0 (hiW (m*l))=hiW (m*l):=by unfold vw; omega
 rw[bq.2 hm,bq.2 hh,bq.2 hl,bq.2 hx,iq q1,iq q2,jm,fI,ev,decide_eq_true hA,show wB 0=true from rfl]
 simp only[Bool.and_self,cond_true]
 rw[G6]
 have k64:(2:Int)^min (Int.toNat 32) 64=4294967296:=rfl
 have kk:(2^32:Nat)=4294967296:=rfl
 rw[k64,jT _ (by omega),jT _ (by omega)]
 have wq1:=zw p0 (show P<340282366920938463463374607431768211456 by omega)
 have wq2:=mG P
 have hP:hiW P<4294967296:=by unfold hiW; omega
 unfold bH at wq1 wq2
 rw[wl (hiW P*4294967296) (by omega),wq 32 (by omega) (by omega) (by omega) (by omega)]
 have w3:bH (loW (m*h+hiW (m*l))):=mG _
 have w4:bH (loW (m*l)):=mG _
 have w5:bH (hiW P*4294967296+loW P / 4294967296):=by unfold bH; omega
 have w6:bH (IntKind.u64.wrap (loW P*4294967296)):=by rw[IntKind.wrap_u64]; unfold bH; omega
 rw[RU w3 w4 w5 w6]
 have e1:=mH (m*h+hiW (m*l))
 have e2:=mH (m*l)
 have e3:=mH P
 rw[IntKind.wrap_u64,hsm]
 congr 2
 rw[decide_eq_decide]
 omega
theorem G7:FspOk Tryz.prog 295 wv:=ar B2 ec ⟨Tryz.func295,fun _ _=>by kernel_rfl⟩ (by intro α args k; unfold wv; split<;>simp only[ak,Option.bind_some,Option.bind_none]) fun args out hs h=>by
 unfold wv at h
 split at h
 ·rename_i n h1 l x
  cases hb:blB n h1 l x
  ·rw[hb] at h; cases h
  ·rw[hb,cond_true] at h
   exact⟨4,2,(zH 0 0 AOut hb some).trans h⟩
 ·cases h
def fsC:FuncId→Option Fsp:=fun g=>
 if g=295 then some wv else
 if g=170 then some Eu else fsB g
theorem nO:aD fsC:=
 ae G7 <|
 ae Ln <|
 B2
def jU (x s:Int) (m:Nat):Bool:=decide ((m:Int)*m*s≤4294967296*(x*x))
theorem Lo (x s:Int):shr x s=((bs (jU x s) 17 0:Nat):Int):=by rw[Tr]; rfl
def shB (x h l:Int):Bool:=(decide (0≤x)&&decide (x≤70368744177664))&&(wB h&&wB l)&&(decide (0<vw h l)&&decide (vw h l<19807040628566084398385987584))&&decide (x*x≤vw h l)
noncomputable def pB:Fsp:=fun _ args k=>match args with
 | [.int .u64 x,.agg [.int .u64 h,.int .u64 l]]=>bif shB x h l then k (.ret (.int .u64 (shr x (vw h l)))) else none
 |_=>none
theorem Lp {x s:Int} (hs:0≤s) (m n:Nat) (h:n≤m) (hm:jU x s m=true):jU x s n=true:=by
 simp only[jU,decide_eq_true_eq] at hm ⊢
 have:(n:Int)*n≤m*m:=Int.mul_le_mul (by omega) (by omega) (by omega) (by omega)
 have:=Int.mul_le_mul_of_nonneg_right this hs
 omega
theorem ww {x s:Int} (hs:0<s) (hx:x*x≤s) (m:Nat) (h:65537≤m):jU x s m=false:=by
 simp only[jU,decide_eq_false_iff_not,Int.not_le]
 have:(65537:Int)*65537≤m*m:=Int.mul_le_mul (by omega) (by omega) (by omega) (by omega)
 have:=Int.mul_le_mul_of_nonneg_right this (Int.le_of_lt hs)
 omega
theorem zI {x s:Int} (x0:0≤x):jU x s 0=true:=by
 simp only[jU,decide_eq_true_eq]
 have h1:=Int.mul_nonneg x0 x0
 have h2:((0:Nat):Int)*((0:Nat):Int)*s=0:=by simp
 omega
theorem B8 (N n0:Nat) (α:Type) (x h l:Int) (k:AOut→Option α):am real tab ((twT fsC spA).env real tab N (n0+2)) N Tryz.f277 α [uN x,.agg [uN h,uN l]] k =
 ag (af N (fun (y:Int × Int × Unit)=>bif decide (y.2.1>0) then bif decide (IntKind.u64.wrap (((BitVec.ofInt 64 y.1 ||| BitVec.ofInt 64 y.2.1).toNat:Nat):Int) ≤
 65536) then bif blB (IntKind.u64.wrap (((BitVec.ofInt 64 y.1 ||| BitVec.ofInt 64 y.2.1).toNat:Nat):Int)) h l x then bif decide (IntKind.u64.wrap (((BitVec.ofInt 64 y.1 |||
 BitVec.ofInt 64 y.2.1).toNat:Nat):Int)*IntKind.u64.wrap (((BitVec.ofInt 64 y.1 ||| BitVec.ofInt 64 y.2.1).toNat:Nat):Int)*vw h l≤4294967296*(x*x)) then some
 (LRes.cont (IntKind.u64.wrap (((BitVec.ofInt 64 y.1 ||| BitVec.ofInt 64 y.2.1).toNat:Nat):Int),y.2.1.fdiv (2^min (Int.toNat 1) 64),())) else some (LRes.cont (y.1,y.2.1.fdiv
 (2^min (Int.toNat 1) 64),())) else none else some (LRes.cont (y.1,y.2.1.fdiv (2^min (Int.toNat 1) 64),())) else some (LRes.brk 0 (y.1,y.2.1,()))) (0,65536,())) fun id y
 => if id=0 then k (AOut.ret (AVal.int IntKind.u64 y.1)) else none:=by kernel_rfl
theorem zJ (N n0:Nat) (α:Type) {x h l:Int} (hb:shB x h l=true) (k:AOut→Option α):am real tab ((twT fsC spA).env real tab (N+18) (n0+2)) (N+18) Tryz.f277 α [uN x,.agg [uN h,uN l]] k=k (.ret (.int .u64 (shr x (vw h l)))):=by
 rw[B8]
 simp only[shB,Bool.and_eq_true,decide_eq_true_eq] at hb
 obtain⟨⟨⟨⟨x0,x1⟩,hh,hl⟩,hs0,hs⟩,hx⟩:=hb
 have hbl:∀m:Nat,m≤131072→blB (m:Int) h l x=true:=fun m hm=>by
  simp only[blB,hh,hl,decide_eq_true x0,decide_eq_true x1,decide_eq_true hs,decide_eq_true (show (0:Int)≤m by omega),decide_eq_true (show (m:Int)≤131072 by omega),Bool.and_self]
 have ht:=ww hs0 hx
 generalize vw h l=s at *
 generalize hf:(fun y:Int × Int × Unit=>(_:Option (LRes (Int × Int × Unit) α)))=f
 have e:=je (f:=f) (jU x s) 17 (fun n k h1 h2 h3=>?_) (fun n=>?_) 17 0 rfl (by omega) (zI x0) (N+18) (by omega)
 ·have e':af (N+18) f (0,65536,())=some (.brk 0 (((bs (jU x s) 17 0:Nat):Int),0,())):=e
  rw[e',Lo]
  rfl
 ·rw[←hf]
  have p17:(2:Nat)^17=131072:=rfl
  have hk:2^(k+1)=2^k+2^k:=by rw[Nat.pow_succ]; omega
  have hpos:0<2^k:=Nat.two_pow_pos k
  have hor:IntKind.u64.wrap (((BitVec.ofInt 64 (n:Int) ||| BitVec.ofInt 64 ((2^k:Nat):Int)).toNat:Nat):Int)=((n+2^k:Nat):Int):=by
   rw[wq (k+1) (by omega) (by omega) (by omega) (by omega)]; omega
  have hsh:(((2^k:Nat):Int)).fdiv (2^min (Int.toNat 1) 64)=((2^k / 2:Nat):Int):=by
   rw[show (2:Int)^min (Int.toNat 1) 64=2 from rfl,jT _ (by omega)]; omega
  simp only[hor,hsh,decide_eq_true (show ((2^k:Nat):Int)>0 by omega),cond_true,hbl (n+2^k) (by omega)]
  have hp:jU x s (n+2^k)=decide (((n+2^k:Nat):Int)*((n+2^k:Nat):Int)*s≤4294967296*(x*x)):=rfl
  rw[←hp]
  by_cases hd:((n+2^k:Nat):Int)≤65536
  ·rw[decide_eq_true hd,cond_true]
   cases jU x s (n+2^k)<;>rfl
  ·rw[decide_eq_false hd,cond_false,ht (n+2^k) (by omega)]
   rfl
 ·rw[←hf]
  rfl
theorem B9:FspOk Tryz.prog 277 pB:=ar nO ec ⟨Tryz.func277,fun _ _=>by kernel_rfl⟩ (by intro α args k; unfold pB; split<;>simp only[ak,Option.bind_some,Option.bind_none]) fun args out hs h=>by
 unfold pB at h
 split at h
 ·rename_i x h1 l
  cases hb:shB x h1 l
  ·rw[hb] at h; cases h
  ·rw[hb,cond_true] at h
   exact⟨18,2,(zJ 0 0 AOut hb some).trans h⟩
 ·cases h
theorem OW (a b:Int):List.all [a,b] okB=(okB a&&okB b):=by simp
theorem OX (a b c d:Int):List.all [a,b,c,d] okB=(okB a&&okB b&&okB c&&okB d):=by simp[Bool.and_assoc]
theorem T8 (a b c:Int):List.all [a,b,c] okB=(okB a&&okB b&&okB c):=by simp[Bool.and_assoc]
theorem RV (a:Int):List.all [a] okB=okB a:=by simp
theorem b9 {a b:Int} (ha:okB a=true) (hb:okB b=true):0≤ab a*ab b∧ab a*ab b≤4951760157141521099596496896:=
 ⟨Int.mul_nonneg (cB a) (cB b),Int.mul_le_mul (Em ha) (Em hb) (cB b) (by omega)⟩
def pC:Fsp:=fun _ args k=>match args with
 | [.agg [.int .i64 x,.int .i64 y]]=>bif okB x&&okB y then k (.ret (.agg [uN (hiW (sq2 x y)),uN (loW (sq2 x y))])) else k (mis fxm 2)
 |_=>none
theorem zK (N n:Nat) (α:Type) (a b:Int) (k:AOut→Option α):am real tab ((twT fsC spA).env real tab N (n+2)) N Tryz.f176 α [sN a b] k =
 bif [a,b].all okB then bif i6 a then bif i6 a then bif wB (ab a)&&wB (ab a) then bif i6 b then bif i6 b then bif wB (ab b)&&wB (ab b) then bif wB (hiW (ab a*ab a))&&wB (loW
 (ab a*ab a))&&wB (hiW (ab b*ab b))&&wB (loW (ab b*ab b))&&decide (vw (hiW (ab a*ab a)) (loW (ab a*ab a))+vw (hiW (ab b*ab b)) (loW (ab b*ab b)) <
 340282366920938463463374607431768211456) then k (AOut.ret (AVal.agg [AVal.int IntKind.u64 (hiW (vw (hiW (ab a*ab a)) (loW (ab a*ab a))+vw (hiW (ab b*ab b)) (loW (ab b*ab
 b)))),AVal.int IntKind.u64 (loW (vw (hiW (ab a*ab a)) (loW (ab a*ab a))+vw (hiW (ab b*ab b)) (loW (ab b*ab b))))])) else none else none else none else none else none else
 none else none else k (mis fxm 2):=by kernel_rfl
theorem Ca:FspOk Tryz.prog 176 pC:=ar nO ec ⟨Tryz.func176,fun _ _=>by kernel_rfl⟩ (by intro α args k; unfold pC; split<;>simp only[ak,Option.bind_some,Option.bind_none]) fun args out hs h=>by
 unfold pC at h
 split at h
 ·rename_i x y
  refine⟨8,2,(zK 8 0 AOut x y some).trans (Eq.trans ?_ h)⟩
  rw[OW]
  cases hx:okB x
  ·rfl
  ·cases hy:okB y
   ·rfl
   ·have a1:=b9 hx hx
    have a2:=b9 hy hy
    simp only[cK hx,cK hy,ip (cK hx),ip (cK hy),iq (show 0≤ab x*ab x∧ab x*ab x<_ from ⟨a1.1,by omega⟩),iq (show 0≤ab y*ab y∧ab y*ab y<_ from ⟨a2.1,by omega⟩),jm,fI,Bool.and_self,cond_true,decide_eq_true (show ab x*ab x+ab y*ab y<340282366920938463463374607431768211456 by omega)]
    rfl
 ·cases h
def OY:Fsp:=fun _ args k=>match args with
 | [.int .i64 a,.int .i64 b]=>bif okB a&&okB b then (bif fxB (ab (a+b)) then k (i1 (a+b)) else k (mis fxm 4)) else k (mis fxm 2)
 |_=>none
def OZ:Fsp:=fun _ args k=>match args with
 | [.int .i64 a,.int .i64 b]=>bif okB a&&okB b then (bif fxB (ab (a-b)) then k (i1 (a-b)) else k (mis fxm 4)) else k (mis fxm 2)
 |_=>none
theorem Ew {α:Type} {z:Int} (hz:i6 z=true) (k:AOut→Option α) :
  (bif i6 (IntKind.i64.wrap z) then
   bif wB (ab (IntKind.i64.wrap z)) then
    bif fxB (ab (IntKind.i64.wrap z)) then k (AOut.ret (AVal.int IntKind.i64 (sg (decide (IntKind.i64.wrap z<0)) (ab (IntKind.i64.wrap z)))))
    else k (mis fxm 4)
   else none
  else none)=bif fxB (ab z) then k (i1 z) else k (mis fxm 4):=by
 have e:=BV z (nN.1 hz)
 rw[e,hz,ip hz,cond_true,cond_true]
 have:=To z
 unfold ngB at this
 rw[this]
 rfl
theorem Lq (N n:Nat) (α:Type) (a b:Int) (k:AOut→Option α):am real tab ((twT fsC spA).env real tab N (n+2)) N Tryz.f284 α [iN a,iN b] k =
 bif [a,b].all okB then bif i6 (IntKind.i64.wrap (a+b)) then bif wB (ab (IntKind.i64.wrap (a+b))) then bif fxB (ab (IntKind.i64.wrap (a+b))) then k (AOut.ret (AVal.int
 IntKind.i64 (sg (decide (IntKind.i64.wrap (a+b)<0)) (ab (IntKind.i64.wrap (a+b)))))) else k (mis fxm 4) else none else none else k (mis fxm 2):=by kernel_rfl
theorem Lr (N n:Nat) (α:Type) (a b:Int) (k:AOut→Option α):am real tab ((twT fsC spA).env real tab N (n+2)) N Tryz.f271 α [iN a,iN b] k =
 bif [a,b].all okB then bif i6 (IntKind.i64.wrap (a-b)) then bif wB (ab (IntKind.i64.wrap (a-b))) then bif fxB (ab (IntKind.i64.wrap (a-b))) then k (AOut.ret (AVal.int
 IntKind.i64 (sg (decide (IntKind.i64.wrap (a-b)<0)) (ab (IntKind.i64.wrap (a-b)))))) else k (mis fxm 4) else none else none else k (mis fxm 2):=by kernel_rfl
theorem O0:FspOk Tryz.prog 284 OY:=ar nO ec ⟨Tryz.func284,fun _ _=>by kernel_rfl⟩ (by intro α args k; unfold OY; split<;>simp only[ak,Option.bind_some,Option.bind_none]) fun args out hs h=>by
 unfold OY at h
 split at h
 ·rename_i x y
  refine⟨8,2,(Lq 8 0 AOut x y some).trans (Eq.trans ?_ h)⟩
  rw[OW]
  cases hx:okB x
  ·rfl
  ·cases hy:okB y
   ·rfl
   ·rw[Bool.and_self,cond_true,cond_true,Ew]
    rw[d8] at hx hy; rw[nN]; omega
 ·cases h
theorem O1:FspOk Tryz.prog 271 OZ:=ar nO ec ⟨Tryz.func271,fun _ _=>by kernel_rfl⟩ (by intro α args k; unfold OZ; split<;>simp only[ak,Option.bind_some,Option.bind_none]) fun args out hs h=>by
 unfold OZ at h
 split at h
 ·rename_i x y
  refine⟨8,2,(Lr 8 0 AOut x y some).trans (Eq.trans ?_ h)⟩
  rw[OW]
  cases hx:okB x
  ·rfl
  ·cases hy:okB y
   ·rfl
   ·rw[Bool.and_self,cond_true,cond_true,Ew]
    rw[d8] at hx hy; rw[nN]; omega
 ·cases h
def prP (a b how:Int):Int:=gC how (xorB (ngB a) (ngB b)) (ab a*ab b) 65536
def O2:Fsp:=fun _ args k=>match args with
 | [.int .i64 a,.int .i64 b,.fn g []]=>
   match uB g with
   |some how=>bif okB a&&okB b then gD (xorB (ngB a) (ngB b)) (prP a b how) k else k (mis fxm 2)
   |none=>none
 |_=>none
def kz {α:Type} (a b how:Int) (k:AOut→Option α):Option α:=
 bif [a,b].all okB then
  bif i6 a then
   bif i6 b then
    bif wB (ab a)&&wB (ab b) then
     bif wB (hiW (ab a*ab b))&&wB (loW (ab a*ab b))&&wB 65536&&decide ((0:Int)<65536) then
      gD (!(decide (a<0)==decide (b<0))) (gC how (!(decide (a<0)==decide (b<0))) (vw (hiW (ab a*ab b)) (loW (ab a*ab b))) 65536) k
     else none
    else none
   else none
  else none
 else k (mis fxm 2)
theorem O3 {α:Type} (a b how:Int) (k:AOut→Option α):kz a b how k=bif okB a&&okB b then gD (xorB (ngB a) (ngB b)) (prP a b how) k else k (mis fxm 2):=by
 unfold kz
 rw[OW]
 cases hx:okB a
 ·rfl
 ·cases hy:okB b
  ·rfl
  ·have a1:=b9 hx hy
   simp only[cK hx,cK hy,ip (cK hx),ip (cK hy),iq (show 0≤ab a*ab b∧ab a*ab b<_ from ⟨a1.1,by omega⟩),jm,fI,Bool.and_self,cond_true,show wB 65536=true from rfl,show decide ((0:Int)<65536)=true from rfl]
   rfl
theorem G8 (N n:Nat) (α:Type) (a b:Int) (k:AOut→Option α):am real tab ((twT fsC spA).env real tab N (n+2)) N Tryz.f283 α [iN a,iN b,.fn 117 []] k=kz a b 0 k:=by kernel_rfl
theorem G9 (N n:Nat) (α:Type) (a b:Int) (k:AOut→Option α):am real tab ((twT fsC spA).env real tab N (n+2)) N Tryz.f283 α [iN a,iN b,.fn 118 []] k=kz a b 1 k:=by kernel_rfl
theorem Ha (N n:Nat) (α:Type) (a b:Int) (k:AOut→Option α):am real tab ((twT fsC spA).env real tab N (n+2)) N Tryz.f283 α [iN a,iN b,.fn 119 []] k=kz a b 2 k:=by kernel_rfl
theorem Hb (N n:Nat) (α:Type) (a b:Int) (k:AOut→Option α):am real tab ((twT fsC spA).env real tab N (n+2)) N Tryz.f283 α [iN a,iN b,.fn 120 []] k=kz a b 3 k:=by kernel_rfl
theorem O4:FspOk Tryz.prog 283 O2:=ar nO ec ⟨Tryz.func283,fun _ _=>by kernel_rfl⟩ (by intro α args k; unfold O2; split<;>(try split)<;>simp only[ak,kx,Option.bind_some,Option.bind_none]) fun args out hs h=>by
 unfold O2 at h
 split at h
 ·rename_i a b g
  split at h
  ·rename_i how hg
   rw[←O3] at h
   rcases ky hg with hf
     |⟨rfl,rfl⟩
     |⟨rfl,rfl⟩
     |⟨rfl,rfl⟩
     |⟨rfl,rfl⟩
   ·cases hf
   ·exact⟨8,2,(G8 8 0 AOut a b some).trans h⟩
   ·exact⟨8,2,(G9 8 0 AOut a b some).trans h⟩
   ·exact⟨8,2,(Ha 8 0 AOut a b some).trans h⟩
   ·exact⟨8,2,(Hb 8 0 AOut a b some).trans h⟩
  ·cases h
 ·cases h
structure Exe (n D:Nat) (w w':World):Prop where
 os:w'.os=w.os
 tape:w'.tape=w.tape
 output:w'.output=w.output
 size:w.heap.size≤w'.heap.size
 block:∀k,k<n→k≠D→k≠D+1→w'.heap[k]?=w.heap[k]?
theorem Exe.of {n D:Nat} {w w':World} (h:Below n w w'):Exe n D w w':=⟨h.os,h.tape,h.output,h.size,fun k hk _ _=>h.block k hk⟩
theorem Exe.trans {n D:Nat} {a b c:World} (h:Exe n D a b) (k:Exe n D b c):Exe n D a c:=
 ⟨k.os.trans h.os,k.tape.trans h.tape,k.output.trans h.output,Nat.le_trans h.size k.size,fun i hi hd he=>(k.block i hi hd he).trans (h.block i hi hd he)⟩
theorem Exe.set {n D:Nat} {w:World} (v:Value):Exe n D w (w.setCell ⟨D,0,none⟩ v):=
 ⟨rfl,rfl,rfl,by simp[World.setCell],fun k _ hd _=>Below.heap_setCell _ _ _ _ hd⟩
theorem Exe.set1 {n D:Nat} {w:World} (v:Value):Exe n D w (w.setCell ⟨D+1,0,none⟩ v):=
 ⟨rfl,rfl,rfl,by simp[World.setCell],fun k _ _ hd=>Below.heap_setCell _ _ _ _ hd⟩
theorem Exe.drew {n D:Nat} {w w':World} (h:Exe n D w w'):Exe n D w { w' with drawn:=w'.drawn+1 }:=⟨h.os,h.tape,h.output,h.size,h.block⟩
theorem dF {w w1:World} {c1 c2:Array Value} {t1 t2:TypeId} (h1:w1.heap[w.heap.size]?=((w.alloc (.cells c1 t1)).alloc (.cells c2 t2)).heap[w.heap.size]?) (h2:w1.heap[w.heap.size+1]?=((w.alloc (.cells c1 t1)).alloc (.cells c2 t2)).heap[w.heap.size+1]?) :
  (∀i,w1.cell? ⟨w.heap.size,i,none⟩=c1[i]?)∧(∀i,w1.cell? ⟨w.heap.size+1,i,none⟩=c2[i]?)∧(∀i,w1.frozen? ⟨w.heap.size,i,none⟩=false)∧(∀i,w1.frozen? ⟨w.heap.size+1,i,none⟩=false):=by
 refine⟨fun i=>?_,fun i=>?_,fun i=>?_,fun i=>?_⟩
 ·rw[World.cell?_of_block (w':=w1) (a:=⟨w.heap.size,i,none⟩) h1]; simp[go_sem]
 ·rw[World.cell?_of_block (w':=w1) (a:=⟨w.heap.size+1,i,none⟩) h2]; simp[go_sem]
 ·rw[World.frozen?_of_block (w':=w1) (a:=⟨w.heap.size,i,none⟩) h1]; simp[go_sem]
 ·rw[World.frozen?_of_block (w':=w1) (a:=⟨w.heap.size+1,i,none⟩) h2]; simp[go_sem]
theorem aY {w:World} {a b:Addr} (v:Value) (h:a≠b):(w.setCell a v).cell? b=w.cell? b:=World.cell?_setCell_other w a b v h
def cN (e:Int):List PanicEntry:=[{ v:=.iface 191 (.agg #[.int .i64 e]),recovered:=false }]
theorem ed (c:Int) (w:World):(Instr.typeAssert (.iface 191 (.agg #[.int .i64 c])) 20 191 true).run Tryz.prog w=.ok (.tuple #[.agg #[.int .i64 c],.bool true]) w:=by kernel_rfl
theorem ef (w:World):(Instr.typeAssert .nilIface 20 191 true).run Tryz.prog w=.ok (.tuple #[.agg #[.int .i64 0],.bool false]) w:=by kernel_rfl
theorem rS (b:Nat) (x y c:Int) (w:World) (hp:w.cell? ⟨b,0,none⟩=some (.int .i64 x)) (hq:w.cell? ⟨b+1,0,none⟩=some (.int .i64 y)) (fp:w.frozen? ⟨b,0,none⟩=false) (fq:w.frozen? ⟨b+1,0,none⟩=false) (hqb:b+1<w.heap.size) :
  CallsD Tryz.prog 116 #[.pointer (some ⟨b,0,none⟩),.pointer (some ⟨b+1,0,none⟩)] (.panicking (cN c)) w fun e u' w'=>
   e=.returned (.tuple #[])∧u'=.panicking [{ v:=.iface 191 (.agg #[.int .i64 c]),recovered:=true }]∧w'.cell? ⟨b,0,none⟩=some (.int .i64 0)∧w'.cell? ⟨b+1,0,none⟩=some (.int .i64 c)∧Exe w.heap.size b w w':=by
 refine callsD_of_wpS Tryz.func116 rfl fun c₀ cs hu=>?_
 apply wpS_seq
 apply wpS_region
 simp[wpOpsS,go_sem,recoverD,hu,cN,Tryz.ntmps116,Exit.thenS,Array.replicate,List.replicate]
 refine wpS_of_wp ?_
 clear hu
 have hta:=fun w=>ed c w
 have ha:∀o,Below w.heap.size w (w.alloc o):=fun o=>(Below.refl _ _).alloc (Nat.le_refl _) o
 have hp':∀o,(w.alloc o).cell? ⟨b,0,none⟩=some (.int .i64 x):=fun o=>((ha o).cell (p:=⟨b,0,none⟩) (by simp; omega)).trans hp
 have hq':∀o,(w.alloc o).cell? ⟨b+1,0,none⟩=some (.int .i64 y):=fun o=>((ha o).cell (p:=⟨b+1,0,none⟩) (by simp; omega)).trans hq
 have fp':∀o,(w.alloc o).frozen? ⟨b,0,none⟩=false:=fun o=>((ha o).frozen (p:=⟨b,0,none⟩) (by simp; omega)).trans fp
 have fq':∀o,(w.alloc o).frozen? ⟨b+1,0,none⟩=false:=fun o=>((ha o).frozen (p:=⟨b+1,0,none⟩) (by simp; omega)).trans fq
 clear ha
 go_wp2
 go_region
 all_goals
  go_big_unhide
  simp[bodyPostS,results,Tryz.results116,go_sem]
  refine⟨bf _ (hp' _),bf (u:=.int .i64 y) _ ((aY _ (by simp)).trans (hq' _)),?_⟩
  exact (((Exe.of ((Below.refl w.heap.size w).alloc (Nat.le_refl _) _)).trans (.set _)).trans (.set1 _)).drew
theorem sV (b:Nat) (w:World) :
  CallsD Tryz.prog 116 #[.pointer (some ⟨b,0,none⟩),.pointer (some ⟨b+1,0,none⟩)] .returning w fun e u' w'=>
   e=.returned (.tuple #[])∧u'=.returning∧Below w.heap.size w w':=by
 refine callsD_of_wpS Tryz.func116 rfl fun c₀ cs hu=>?_
 apply wpS_seq
 apply wpS_region
 simp[wpOpsS,go_sem,recoverD,hu,Tryz.ntmps116,Exit.thenS,Array.replicate,List.replicate]
 refine wpS_of_wp ?_
 have hta:=fun w=>ef w
 go_wp2
 all_goals
  simp[bodyPostS,results,Tryz.results116,go_sem]
  exact⟨.returning,by cases c₀; simp_all,rfl,(Below.refl _ _).alloc (Nat.le_refl _) _⟩
set_option maxHeartbeats 1000000 in
theorem Cb (K:FuncId) (caps:Array Value) (v:Int) (Q:World→Prop) (he:∀w,(callFunc K caps).run Tryz.prog w=.ok (.enter K caps) w) (w:World)
  (h:∀w1,Below w.heap.size w w1→w.heap.size+1<w1.heap.size→Calls Tryz.prog K caps w1 fun e w'=>e=.returned (.int .i64 v)∧w'.heap[w.heap.size]?=w1.heap[w.heap.size]?∧w'.heap[w.heap.size+1]?=w1.heap[w.heap.size+1]?∧w1.heap.size≤w'.heap.size∧Q w') :
  Calls Tryz.prog 65 #[.func (.func K) #[] caps] w fun e w'=>e=.returned (.tuple #[.int .i64 v,.int .i64 0])∧∃w2,Q w2∧Exe w2.heap.size w.heap.size w2 w':=by
 have hmf:∀(fn:Fn) (first cap:Array Value) (w:World),(Instr.makeFunc fn first cap).run Tryz.prog w=.ok (.func fn first cap) w:=fun _ _ _ _=>rfl
 have HH:=fH h
 have hcall:∀w,(callFunc K caps).run Tryz.prog w=.ok (.enter K caps) w:=he
 clear h he
 go_enter_defers Tryz.func65,Tryz.ntmps65
 go_wp2_with (go_at_fn K; refine (HH.out _ (((Below.refl _ _).alloc (Nat.le_refl _) _).alloc (by simp) _) (by simp)).mono ?_; rintro e w1 ⟨rfl,hb1,hb2,hz1,hq⟩; obtain⟨hc1,hc2,hf1,hf2⟩:=dF hb1 hb2; have hz:w.heap.size+1<w1.heap.size:=(by simp at hz1; omega); have hd1:=hc1 0; have hd2:=hc2 0)
 refine leaves_cons (f:=116) (args:=#[.pointer (some ⟨w.heap.size,0,none⟩),.pointer (some ⟨w.heap.size+1,0,none⟩)]) (by simp) (by simp[go_sem]) ?_
 have hs:((w1.setCell ⟨w.heap.size,0,none⟩ (.int .i64 v)).setCell ⟨w.heap.size+1,0,none⟩ (.int .i64 0)).heap.size=w1.heap.size:=by simp[World.setCell]
 refine (sV w.heap.size _).mono ?_
 rintro e u' w2 ⟨rfl,rfl,hb2⟩
 rw[hs] at hb2
 have g1:w2.cell? ⟨w.heap.size,0,none⟩=some (.int .i64 v):=by
  rw[hb2.cell (p:=⟨w.heap.size,0,none⟩) (by show w.heap.size<_; omega),aY _ (by simp)]
  exact bf _ hd1
 have g2:w2.cell? ⟨w.heap.size+1,0,none⟩=some (.int .i64 0):=by
  rw[hb2.cell (p:=⟨w.heap.size+1,0,none⟩) hz]
  exact bf (u:=.int .i64 0) _ ((aY _ (by simp)).trans hd2)
 clear HH hcall hmf hc1 hc2 hf1 hf2 hd1 hd2
 simp[Leaves,settle,results,Tryz.results65,go_sem,g1,g2]
 exact⟨w1,hq,((Exe.set _).trans (.set1 _)).trans (Exe.of hb2)⟩
set_option maxHeartbeats 1000000 in
theorem zL (K:FuncId) (caps:Array Value) (c:Int) (Q:World→Prop) (he:∀w,(callFunc K caps).run Tryz.prog w=.ok (.enter K caps) w) (w:World)
  (h:∀w1,Below w.heap.size w w1→w.heap.size+1<w1.heap.size→Calls Tryz.prog K caps w1 fun e w'=>e=.panicked (cN c)∧w'.heap[w.heap.size]?=w1.heap[w.heap.size]?∧w'.heap[w.heap.size+1]?=w1.heap[w.heap.size+1]?∧w1.heap.size≤w'.heap.size∧Q w') :
  Calls Tryz.prog 65 #[.func (.func K) #[] caps] w fun e w'=>e=.returned (.tuple #[.int .i64 0,.int .i64 c])∧∃w2,Q w2∧Exe w2.heap.size w.heap.size w2 w':=by
 have hmf:∀(fn:Fn) (first cap:Array Value) (w:World),(Instr.makeFunc fn first cap).run Tryz.prog w=.ok (.func fn first cap) w:=fun _ _ _ _=>rfl
 have HH:=fH h
 have hcall:∀w,(callFunc K caps).run Tryz.prog w=.ok (.enter K caps) w:=he
 clear h he
 go_enter_defers Tryz.func65,Tryz.ntmps65
 go_wp2_with (go_at_fn K; refine (HH.out _ (((Below.refl _ _).alloc (Nat.le_refl _) _).alloc (by simp) _) (by simp)).mono ?_; rintro e w1 ⟨rfl,hb1,hb2,hz1,hq⟩; obtain⟨hc1,hc2,hf1,hf2⟩:=dF hb1 hb2; have hz:w.heap.size+1<w1.heap.size:=(by simp at hz1; omega))
 refine leaves_cons (f:=116) (args:=#[.pointer (some ⟨w.heap.size,0,none⟩),.pointer (some ⟨w.heap.size+1,0,none⟩)]) (by simp) (by simp[go_sem]) ?_
 refine (rS w.heap.size 0 0 c _ (hc1 0) (hc2 0) (hf1 0) (hf2 0) hz).mono ?_
 rintro e u' w2 ⟨rfl,rfl,g1,g2,hb2⟩
 clear HH hcall hmf hc1 hc2 hf1 hf2
 simp[Leaves,settle,results,Tryz.results65,go_sem,g1,g2]
 exact⟨w1,hq,hb2⟩
theorem Ls {K K2:Nat→Prop} {h g} {w w':World} {D:Nat} (s:St K2 h g w) (hM:∀b,g.M b→b≠D∧b≠D+1) (hK:∀b,K b→(b≠D∧b≠D+1)∧K2 b) (e:Exe w.heap.size D w w'):Le K h g w h g w' where
 len:=Nat.le_refl _
 here:=fun _ h=>h
 m:=fun _ h=>h
 new:=fun _ h=>.inl h
 mw:=fun b hb=>e.block b (s.low b hb) (hM b hb).1 (hM b hb).2
 k:=fun b hb=>e.block b (s.klow b (hK b hb).2) (hK b hb).1.1 (hK b hb).1.2
 box:=fun _ wr cs' _ h=>⟨wr,cs',h,rfl,rfl⟩
 row:=fun _ wr _ _ xs' _ h=>⟨wr,xs',h,fun _=>rfl,rfl⟩
 lp:=fun _ st pend _ _ _ _ _ h=>⟨st,pend,h,rfl⟩
 lockb:=fun _ _ h=>h
 lockr:=fun _ _ _ _ h=>h
 os:=e.os
 tape:=e.tape
 output:=e.output
 size:=e.size
theorem RW {K K2:Nat→Prop} {h g} {w w':World} {D:Nat} (s:St K2 h g w) (hD:K2 D∧K2 (D+1)) (hM:∀b,g.M b→b≠D∧b≠D+1) (hK:∀b,K b→(b≠D∧b≠D+1)∧K2 b) (e:Exe w.heap.size D w w'):St K h g w' where
 blk:=fun i b hb=>(s.blk i b hb).mono (Ls s hM hK e) rfl fun n hd hn=>by
  obtain⟨h1,h2,h3⟩:=s.sep i n ⟨b,hb,hd⟩ hn
  exact e.block n h3 (fun e'=>h1 (by rw[e']; exact hD.1)) fun e'=>h1 (by rw[e']; exact hD.2)
 inj:=s.inj
 sep:=fun i n ai hn=>by
  obtain⟨h1,h2,h3⟩:=s.sep i n ai hn
  exact⟨fun hk=>h1 (hK n hk).2,h2,Nat.lt_of_lt_of_le h3 e.size⟩
 low:=fun b hb=>Nat.lt_of_lt_of_le (s.low b hb) e.size
 klow:=fun b hb=>Nat.lt_of_lt_of_le (s.klow b (hK b hb).2) e.size
def gR (mis:TypeId) (fit:AVal→Bool) (zero:AVal) (cv:Cv):Cv:=fun _ v args h k=>
 match v,args with
 |.fn _ [],[.fn f caps]=>cv _ (.fn f caps) [] h fun x u h1=>
  match x with
  |.normal=>if fit u=true then k .normal (.tup [u,.int .i64 0]) h1 else none
  |.pan (.ifc t (.agg [.int .i64 e]))=>if t=mis then k .normal (.tup [zero,.int .i64 e]) h1 else none
  |_=>none
 |_,_=>none
structure Tried2Ok (P:Program) (f:FuncId) (mis:TypeId) (fit:AVal→Bool) (zf:AVal→Value) (zero:AVal) (zv:Value):Prop where
 shape:∀h g w u z,fit u=true→Rep h g w u z→z=zf u
 rep:∀h g w u,fit u=true→Rep h g w u (zf u)
 repz:∀h g w,Rep h g w zero zv
 enter:∀args w,(callFunc f args).run P w=.ok (.enter f args) w
 ok:∀(K:FuncId) (caps:Array Value) (u:AVal) (Q:World→Prop),fit u=true→(∀w,(callFunc K caps).run P w=.ok (.enter K caps) w)→∀(w:World),
  (∀w1,Below w.heap.size w w1→w.heap.size+1<w1.heap.size→Calls P K caps w1 fun e w'=>e=.returned (zf u)∧w'.heap[w.heap.size]?=w1.heap[w.heap.size]?∧w'.heap[w.heap.size+1]?=w1.heap[w.heap.size+1]?∧w1.heap.size≤w'.heap.size∧Q w') →
  Calls P f #[.func (.func K) #[] caps] w fun e w'=>e=.returned (.tuple #[zf u,.int .i64 0])∧∃w2,Q w2∧Exe w2.heap.size w.heap.size w2 w'
 err:∀(K:FuncId) (caps:Array Value) (c:Int) (Q:World→Prop),(∀w,(callFunc K caps).run P w=.ok (.enter K caps) w)→∀(w:World),
  (∀w1,Below w.heap.size w w1→w.heap.size+1<w1.heap.size→Calls P K caps w1 fun e w'=>e=.panicked [{ v:=.iface mis (.agg #[.int .i64 c]),recovered:=false }]∧w'.heap[w.heap.size]?=w1.heap[w.heap.size]?∧w'.heap[w.heap.size+1]?=w1.heap[w.heap.size+1]?∧w1.heap.size≤w'.heap.size∧Q w') →
  Calls P f #[.func (.func K) #[] caps] w fun e w'=>e=.returned (.tuple #[zv,.int .i64 c])∧∃w2,Q w2∧Exe w2.heap.size w.heap.size w2 w'
theorem ir {P:Program} {f:FuncId} {mis:TypeId} {fit:AVal→Bool} {zf:AVal→Value} {zero:AVal} {zv:Value} (ht:Tried2Ok P f mis fit zf zero zv) (cv:Cv) (hcv:CvOk P cv) (caps0:List AVal):CvAt P (gR mis fit zero cv) (.fn f caps0) where
 nat:=fun α args h k=>by
  unfold gR
  split
  ·rename_i f' fk caps heq
   refine (hcv.nat _ (.fn fk caps) [] h _).trans (Eq.trans ?_ (congrArg (fun z:Option (AExit × AVal × List ABlk)=>z.bind fun p=>k p.1 p.2.1 p.2.2) (hcv.nat _ (.fn fk caps) [] h _).symm))
   cases cv _ (.fn fk caps) [] h aA with
   |none=>rfl
   |some p=>
    obtain⟨x,u,h1⟩:=p
    simp only[Option.bind_some]
    split
    ·split<;>rfl
    ·split<;>rfl
    ·rfl
  ·rfl
 ok:=fun args h x u h1 hk K g w fv cargs s hfv hl hr=>by
  unfold gR at hk
  split at hk
  ·rename_i f' fk caps heq
   cases heq
   rw[hcv.nat] at hk
   obtain⟨carr,rfl,hcl⟩:=rI hfv
   have hc0:carr=#[]:=Array.eq_empty_of_size_eq_zero hcl.symm
   subst hc0
   obtain⟨l⟩:=cargs
   match l,hl with
   | [z],_=>
     have hz:=hr 0 _ z rfl rfl
     obtain⟨karr,rfl,hkl⟩:=rI hz
     -- the call below
     have below:∀x0 u0,cv _ (.fn fk caps) [] h aA=some (x0,u0,h1)→∀w1,Below w.heap.size w w1→w.heap.size+1<w1.heap.size →
       (∀w,(callFunc fk karr).run P w=.ok (.enter fk karr) w)∧Calls P fk karr w1 (cM (fun b=>K b∨b=w.heap.size∨b=w.heap.size+1) h g w1 h1 x0 u0):=fun x0 u0 hc w1 hb hlt=>by
      have s1:=s.below hb g.M (fun _ h=>h) (fun _ h=>.inl h) fun b hb'=>Nat.lt_of_lt_of_le (s.low b hb') hb.size
      have l1:=dC s hb g.M (fun _ h=>h) (fun _ h=>.inl h)
      have s2:St (fun b=>K b∨b=w.heap.size∨b=w.heap.size+1) h g w1:={
       blk:=s1.blk
       inj:=s1.inj
       sep:=fun i b ha hn=>by
        obtain⟨a1,a2,a3⟩:=s1.sep i b ha hn
        obtain⟨_,_,a4⟩:=s.sep i b ha hn
        exact⟨fun hk=>hk.elim a1 fun e=>by omega,a2,a3⟩
       low:=s1.low
       klow:=fun b hb'=>hb'.elim (s1.klow b) fun e=>by omega }
      rcases hcv.ok (.fn fk caps) [] h x0 u0 h1 hc _ g w1 (.func (.func fk) #[] karr) #[] s2 (hz.mono l1) rfl (fun j c z hc=>by simp at hc) with ⟨f2,c2,he,hen,hcall⟩|⟨_,_,_,_,_,he,_⟩|⟨_,_,_,_,⟨z,hz,_⟩,_⟩
      ·cases he
       simp only[Array.empty_append] at hen hcall
       exact⟨hen,hcall⟩
      ·cases he
      ·simp at hz
     have hen:∀x0 u0,cv _ (.fn fk caps) [] h aA=some (x0,u0,h1)→∀w,(callFunc fk karr).run P w=.ok (.enter fk karr) w:=fun x0 u0 hc=>
      (below x0 u0 hc ((w.alloc (.cells #[] 0)).alloc (.cells #[] 0)) (((Below.refl _ _).alloc (Nat.le_refl _) _).alloc (by simp) _) (by simp)).1
     let Q:World→Prop:=fun w2=>∃g',St (fun b=>K b∨b=w.heap.size∨b=w.heap.size+1) h1 g' w2∧Le K h g w h1 g' w2∧∀b,g'.M b→b≠w.heap.size∧b≠w.heap.size+1
     have mkQ:∀w1 w2 g',Below w.heap.size w w1→St (fun b=>K b∨b=w.heap.size∨b=w.heap.size+1) h1 g' w2→Le (fun b=>K b∨b=w.heap.size∨b=w.heap.size+1) h g w1 h1 g' w2→Q w2:=fun w1 w2 g' hb a1 a2=>
      ⟨g',a1,(dC s hb g.M (fun _ h=>h) (fun _ h=>.inl h)).trans (a2.less fun b hb=>.inl hb),fun b hb'=>(a2.new b hb').elim (fun h=>by have:=s.low b h; omega) fun h=>⟨fun e=>h (.inr (.inl e)),fun e=>h (.inr (.inr e))⟩⟩
     have fin:∀(n:Int) (u:AVal) (z:Value) w2 w',(∀h g w,Rep h g w u z)→Q w2→Exe w2.heap.size w.heap.size w2 w'→cM K h g w h1 .normal (.tup [u,.int .i64 n]) (.returned (.tuple #[z,.int .i64 n])) w':=fun n u z w2 w' hz ⟨g',a1,a2,a3⟩ e=>by
      have hK:∀b,K b→(b≠w.heap.size∧b≠w.heap.size+1)∧(K b∨b=w.heap.size∨b=w.heap.size+1):=fun b hb=>⟨by have:=s.klow b hb; omega,.inl hb⟩
      refine⟨g',RW a1 ⟨.inr (.inl rfl),.inr (.inr rfl)⟩ a3 hK e,a2.trans (Ls a1 a3 hK e),_,rfl,.tup _ _ rfl fun j c x hc hx=>?_⟩
      match j with
      |0=>cases hc; cases hx; exact hz _ _ _
      |1=>cases hc; cases hx; exact .int _ _
      |j+2=>cases hc
     refine .inl ⟨f,#[],rfl,fun w=>ht.enter _ w,?_⟩
     show Calls P f #[.func (.func fk) #[] karr] w _
     cases hc:cv _ (.fn fk caps) [] h aA with
     |none=>rw[hc] at hk; cases hk
     |some p=>
      obtain⟨x0,u0,h0⟩:=p
      rw[hc] at hk
      simp only[Option.bind_some] at hk
      split at hk
      ·split at hk
       ·rename_i hfit
        cases hk
        refine (ht.ok fk karr u0 Q hfit (hen _ _ hc) w fun w1 hb hlt=>((below _ _ hc w1 hb hlt).2).mono ?_).mono ?_
        ·rintro e w' ⟨g',a1,a2,y,rfl,hy⟩
         have:=ht.shape _ _ _ _ _ hfit hy
         subst this
         exact⟨rfl,a2.k _ (.inr (.inl rfl)),a2.k _ (.inr (.inr rfl)),a2.size,mkQ w1 w' g' hb a1 a2⟩
        ·rintro e w' ⟨rfl,w2,hq,hex⟩
         exact fin 0 u0 _ w2 w' (fun h g w=>ht.rep h g w u0 hfit) hq hex
       ·cases hk
      ·rename_i t ee
       split at hk
       ·rename_i ht'
        subst ht'
        cases hk
        refine (ht.err fk karr ee Q (hen _ _ hc) w fun w1 hb hlt=>((below _ _ hc w1 hb hlt).2).mono ?_).mono ?_
        ·rintro e w' ⟨g',a1,a2,y,rfl,hy⟩
         cases hy with
         |ifc _ _ y hy=>
          cases hy with
          |agg _ arr hl' hr'=>
           have hsz:arr.size=1:=hl'.symm
           have e0:=br (hr' 0 _ arr[0] rfl (by simp))
           have:arr=#[.int .i64 ee]:=by
            obtain⟨l⟩:=arr
            match l,hsz with
            | [q],_=>simp at e0; rw[e0]
           subst this
           exact⟨rfl,a2.k _ (.inr (.inl rfl)),a2.k _ (.inr (.inr rfl)),a2.size,mkQ w1 w' g' hb a1 a2⟩
        ·rintro e w' ⟨rfl,w2,hq,hex⟩
         exact fin ee zero _ w2 w' ht.repz hq hex
       ·cases hk
      ·cases hk
  ·cases hk
def sW:AVal→Bool
 |.int .i64 _=>true
 |_=>false
def Tx:AVal→Value
 |.int k n=>.int k n
 |_=>.int .i64 0
theorem sX:Tried2Ok Tryz.prog 65 191 sW Tx (.int .i64 0) (.int .i64 0) where
 shape:=fun h g w u z hu hr=>by
  unfold sW at hu
  split at hu
  ·exact br hr
  ·cases hu
 rep:=fun h g w u hu=>by
  unfold sW at hu
  split at hu
  ·exact .int _ _
  ·cases hu
 repz:=fun h g w=>.int _ _
 enter:=fun args w=>by kernel_rfl
 ok:=fun K caps u Q hu he w h=>by
  unfold sW at hu
  split at hu
  ·exact Cb K caps _ Q he w h
  ·cases hu
 err:=fun K caps c Q he w h=>zL K caps c Q he w h
theorem rT (b:Nat) (x:Bool) (y c:Int) (w:World) (hp:w.cell? ⟨b,0,none⟩=some (.bool x)) (hq:w.cell? ⟨b+1,0,none⟩=some (.int .i64 y)) (fp:w.frozen? ⟨b,0,none⟩=false) (fq:w.frozen? ⟨b+1,0,none⟩=false) (hqb:b+1<w.heap.size) :
  CallsD Tryz.prog 293 #[.pointer (some ⟨b,0,none⟩),.pointer (some ⟨b+1,0,none⟩)] (.panicking (cN c)) w fun e u' w'=>
   e=.returned (.tuple #[])∧u'=.panicking [{ v:=.iface 191 (.agg #[.int .i64 c]),recovered:=true }]∧w'.cell? ⟨b,0,none⟩=some (.bool false)∧w'.cell? ⟨b+1,0,none⟩=some (.int .i64 c)∧Exe w.heap.size b w w':=by
 refine callsD_of_wpS Tryz.func293 rfl fun c₀ cs hu=>?_
 apply wpS_seq
 apply wpS_region
 simp[wpOpsS,go_sem,recoverD,hu,cN,Tryz.ntmps293,Exit.thenS,Array.replicate,List.replicate]
 refine wpS_of_wp ?_
 clear hu
 have hta:=fun w=>ed c w
 have ha:∀o,Below w.heap.size w (w.alloc o):=fun o=>(Below.refl _ _).alloc (Nat.le_refl _) o
 have hp':∀o,(w.alloc o).cell? ⟨b,0,none⟩=some (.bool x):=fun o=>((ha o).cell (p:=⟨b,0,none⟩) (by simp; omega)).trans hp
 have hq':∀o,(w.alloc o).cell? ⟨b+1,0,none⟩=some (.int .i64 y):=fun o=>((ha o).cell (p:=⟨b+1,0,none⟩) (by simp; omega)).trans hq
 have fp':∀o,(w.alloc o).frozen? ⟨b,0,none⟩=false:=fun o=>((ha o).frozen (p:=⟨b,0,none⟩) (by simp; omega)).trans fp
 have fq':∀o,(w.alloc o).frozen? ⟨b+1,0,none⟩=false:=fun o=>((ha o).frozen (p:=⟨b+1,0,none⟩) (by simp; omega)).trans fq
 clear ha
 go_wp2
 go_region
 all_goals
  go_big_unhide
  simp[bodyPostS,results,Tryz.results293,go_sem]
  refine⟨bf _ (hp' _),bf (u:=.int .i64 y) _ ((aY _ (by simp)).trans (hq' _)),?_⟩
  exact (((Exe.of ((Below.refl w.heap.size w).alloc (Nat.le_refl _) _)).trans (.set _)).trans (.set1 _)).drew
theorem sY (b:Nat) (w:World) :
  CallsD Tryz.prog 293 #[.pointer (some ⟨b,0,none⟩),.pointer (some ⟨b+1,0,none⟩)] .returning w fun e u' w'=>
   e=.returned (.tuple #[])∧u'=.returning∧Below w.heap.size w w':=by
 refine callsD_of_wpS Tryz.func293 rfl fun c₀ cs hu=>?_
 apply wpS_seq
 apply wpS_region
 simp[wpOpsS,go_sem,recoverD,hu,Tryz.ntmps293,Exit.thenS,Array.replicate,List.replicate]
 refine wpS_of_wp ?_
 have hta:=fun w=>ef w
 go_wp2
 all_goals
  simp[bodyPostS,results,Tryz.results293,go_sem]
  exact⟨.returning,by cases c₀; simp_all,rfl,(Below.refl _ _).alloc (Nat.le_refl _) _⟩
set_option maxHeartbeats 1000000 in
theorem Cd (K:FuncId) (caps:Array Value) (v:Bool) (Q:World→Prop) (he:∀w,(callFunc K caps).run Tryz.prog w=.ok (.enter K caps) w) (w:World)
  (h:∀w1,Below w.heap.size w w1→w.heap.size+1<w1.heap.size→Calls Tryz.prog K caps w1 fun e w'=>e=.returned (.bool v)∧w'.heap[w.heap.size]?=w1.heap[w.heap.size]?∧w'.heap[w.heap.size+1]?=w1.heap[w.heap.size+1]?∧w1.heap.size≤w'.heap.size∧Q w') :
  Calls Tryz.prog 272 #[.func (.func K) #[] caps] w fun e w'=>e=.returned (.tuple #[.bool v,.int .i64 0])∧∃w2,Q w2∧Exe w2.heap.size w.heap.size w2 w':=by
 have hmf:∀(fn:Fn) (first cap:Array Value) (w:World),(Instr.makeFunc fn first cap).run Tryz.prog w=.ok (.func fn first cap) w:=fun _ _ _ _=>rfl
 have HH:=fH h
 have hcall:∀w,(callFunc K caps).run Tryz.prog w=.ok (.enter K caps) w:=he
 clear h he
 go_enter_defers Tryz.func272,Tryz.ntmps272
 go_wp2_with (go_at_fn K; refine (HH.out _ (((Below.refl _ _).alloc (Nat.le_refl _) _).alloc (by simp) _) (by simp)).mono ?_; rintro e w1 ⟨rfl,hb1,hb2,hz1,hq⟩; obtain⟨hc1,hc2,hf1,hf2⟩:=dF hb1 hb2; have hz:w.heap.size+1<w1.heap.size:=(by simp at hz1; omega); have hd1:=hc1 0; have hd2:=hc2 0)
 refine leaves_cons (f:=293) (args:=#[.pointer (some ⟨w.heap.size,0,none⟩),.pointer (some ⟨w.heap.size+1,0,none⟩)]) (by simp) (by simp[go_sem]) ?_
 have hs:((w1.setCell ⟨w.heap.size,0,none⟩ (.bool v)).setCell ⟨w.heap.size+1,0,none⟩ (.int .i64 0)).heap.size=w1.heap.size:=by simp[World.setCell]
 refine (sY w.heap.size _).mono ?_
 rintro e u' w2 ⟨rfl,rfl,hb2⟩
 rw[hs] at hb2
 have g1:w2.cell? ⟨w.heap.size,0,none⟩=some (.bool v):=by
  rw[hb2.cell (p:=⟨w.heap.size,0,none⟩) (by show w.heap.size<_; omega),aY _ (by simp)]
  exact bf _ hd1
 have g2:w2.cell? ⟨w.heap.size+1,0,none⟩=some (.int .i64 0):=by
  rw[hb2.cell (p:=⟨w.heap.size+1,0,none⟩) hz]
  exact bf (u:=.int .i64 0) _ ((aY _ (by simp)).trans hd2)
 clear HH hcall hmf hc1 hc2 hf1 hf2 hd1 hd2
 simp[Leaves,settle,results,Tryz.results272,go_sem,g1,g2]
 exact⟨w1,hq,((Exe.set _).trans (.set1 _)).trans (Exe.of hb2)⟩
set_option maxHeartbeats 1000000 in
theorem zM (K:FuncId) (caps:Array Value) (c:Int) (Q:World→Prop) (he:∀w,(callFunc K caps).run Tryz.prog w=.ok (.enter K caps) w) (w:World)
  (h:∀w1,Below w.heap.size w w1→w.heap.size+1<w1.heap.size→Calls Tryz.prog K caps w1 fun e w'=>e=.panicked (cN c)∧w'.heap[w.heap.size]?=w1.heap[w.heap.size]?∧w'.heap[w.heap.size+1]?=w1.heap[w.heap.size+1]?∧w1.heap.size≤w'.heap.size∧Q w') :
  Calls Tryz.prog 272 #[.func (.func K) #[] caps] w fun e w'=>e=.returned (.tuple #[.bool false,.int .i64 c])∧∃w2,Q w2∧Exe w2.heap.size w.heap.size w2 w':=by
 have hmf:∀(fn:Fn) (first cap:Array Value) (w:World),(Instr.makeFunc fn first cap).run Tryz.prog w=.ok (.func fn first cap) w:=fun _ _ _ _=>rfl
 have HH:=fH h
 have hcall:∀w,(callFunc K caps).run Tryz.prog w=.ok (.enter K caps) w:=he
 clear h he
 go_enter_defers Tryz.func272,Tryz.ntmps272
 go_wp2_with (go_at_fn K; refine (HH.out _ (((Below.refl _ _).alloc (Nat.le_refl _) _).alloc (by simp) _) (by simp)).mono ?_; rintro e w1 ⟨rfl,hb1,hb2,hz1,hq⟩; obtain⟨hc1,hc2,hf1,hf2⟩:=dF hb1 hb2; have hz:w.heap.size+1<w1.heap.size:=(by simp at hz1; omega))
 refine leaves_cons (f:=293) (args:=#[.pointer (some ⟨w.heap.size,0,none⟩),.pointer (some ⟨w.heap.size+1,0,none⟩)]) (by simp) (by simp[go_sem]) ?_
 refine (rT w.heap.size false 0 c _ (hc1 0) (hc2 0) (hf1 0) (hf2 0) hz).mono ?_
 rintro e u' w2 ⟨rfl,rfl,g1,g2,hb2⟩
 clear HH hcall hmf hc1 hc2 hf1 hf2
 simp[Leaves,settle,results,Tryz.results272,go_sem,g1,g2]
 exact⟨w1,hq,hb2⟩
def zN:AVal→Bool
 |.bool _=>true
 |_=>false
def Ty:AVal→Value
 |.bool b=>.bool b
 |_=>.bool false
theorem sZ:Tried2Ok Tryz.prog 272 191 zN Ty (.bool false) (.bool false) where
 shape:=fun h g w u z hu hr=>by
  unfold zN at hu
  split at hu
  ·exact co hr
  ·cases hu
 rep:=fun h g w u hu=>by
  unfold zN at hu
  split at hu
  ·exact .bool _
  ·cases hu
 repz:=fun h g w=>.bool _
 enter:=fun args w=>by kernel_rfl
 ok:=fun K caps u Q hu he w h=>by
  unfold zN at hu
  split at hu
  ·exact Cd K caps _ Q he w h
  ·cases hu
 err:=fun K caps c Q he w h=>zM K caps c Q he w h
theorem Exe.setO {n D:Nat} {w:World} (o:Nat) (v:Value):Exe n D w (w.setCell ⟨D,o,none⟩ v):=
 ⟨rfl,rfl,rfl,by simp[World.setCell],fun k _ hd _=>Below.heap_setCell _ _ _ _ hd⟩
theorem rU (b:Nat) (x x2 y c:Int) (w:World) (hp:w.cell? ⟨b,0,none⟩=some (.int .i64 x)) (hp2:w.cell? ⟨b,1,none⟩=some (.int .i64 x2)) (hq:w.cell? ⟨b+1,0,none⟩=some (.int .i64 y)) (fp:w.frozen? ⟨b,0,none⟩=false) (fp2:w.frozen? ⟨b,1,none⟩=false) (fq:w.frozen? ⟨b+1,0,none⟩=false) (hqb:b+1<w.heap.size) :
  CallsD Tryz.prog 294 #[.pointer (some ⟨b,0,none⟩),.pointer (some ⟨b+1,0,none⟩)] (.panicking (cN c)) w fun e u' w'=>
   e=.returned (.tuple #[])∧u'=.panicking [{ v:=.iface 191 (.agg #[.int .i64 c]),recovered:=true }]∧w'.cell? ⟨b,0,none⟩=some (.int .i64 0)∧w'.cell? ⟨b,1,none⟩=some (.int .i64 0)∧w'.cell? ⟨b+1,0,none⟩=some (.int .i64 c)∧Exe w.heap.size b w w':=by
 refine callsD_of_wpS Tryz.func294 rfl fun c₀ cs hu=>?_
 apply wpS_seq
 apply wpS_region
 simp[wpOpsS,go_sem,recoverD,hu,cN,Tryz.ntmps294,Exit.thenS,Array.replicate,List.replicate]
 refine wpS_of_wp ?_
 clear hu
 have hta:=fun w=>ed c w
 have ha:∀o o',Below w.heap.size w ((w.alloc o).alloc o'):=fun o o'=>((Below.refl _ _).alloc (Nat.le_refl _) o).alloc (by simp) o'
 have hp':∀o o',((w.alloc o).alloc o').cell? ⟨b,0,none⟩=some (.int .i64 x):=fun o o'=>((ha o o').cell (p:=⟨b,0,none⟩) (by simp; omega)).trans hp
 have hp2':∀o o',((w.alloc o).alloc o').cell? ⟨b,1,none⟩=some (.int .i64 x2):=fun o o'=>((ha o o').cell (p:=⟨b,1,none⟩) (by simp; omega)).trans hp2
 have hq':∀o o',((w.alloc o).alloc o').cell? ⟨b+1,0,none⟩=some (.int .i64 y):=fun o o'=>((ha o o').cell (p:=⟨b+1,0,none⟩) (by simp; omega)).trans hq
 have fp':∀o o',((w.alloc o).alloc o').frozen? ⟨b,0,none⟩=false:=fun o o'=>((ha o o').frozen (p:=⟨b,0,none⟩) (by simp; omega)).trans fp
 have fp2':∀o o',((w.alloc o).alloc o').frozen? ⟨b,1,none⟩=false:=fun o o'=>((ha o o').frozen (p:=⟨b,1,none⟩) (by simp; omega)).trans fp2
 have fq':∀o o',((w.alloc o).alloc o').frozen? ⟨b+1,0,none⟩=false:=fun o o'=>((ha o o').frozen (p:=⟨b+1,0,none⟩) (by simp; omega)).trans fq
 clear ha
 go_wp2
 go_region
 all_goals
  go_big_unhide
  simp[bodyPostS,results,Tryz.results294,go_sem]
  refine⟨bf _ (hp' _ _),bf (u:=.int .i64 x2) _ ((aY _ (by simp)).trans (hp2' _ _)),bf (u:=.int .i64 y) _ ((aY _ (by simp)).trans ((aY _ (by simp)).trans (hq' _ _))),?_⟩
  exact ((((Exe.of (((Below.refl w.heap.size w).alloc (Nat.le_refl _) _).alloc (by simp) _)).trans (.setO 0 _)).trans (.setO 1 _)).trans (.set1 _)).drew
theorem s5 (b:Nat) (w:World) :
  CallsD Tryz.prog 294 #[.pointer (some ⟨b,0,none⟩),.pointer (some ⟨b+1,0,none⟩)] .returning w fun e u' w'=>
   e=.returned (.tuple #[])∧u'=.returning∧Below w.heap.size w w':=by
 refine callsD_of_wpS Tryz.func294 rfl fun c₀ cs hu=>?_
 apply wpS_seq
 apply wpS_region
 simp[wpOpsS,go_sem,recoverD,hu,Tryz.ntmps294,Exit.thenS,Array.replicate,List.replicate]
 refine wpS_of_wp ?_
 have hta:=fun w=>ef w
 go_wp2
 all_goals
  simp[bodyPostS,results,Tryz.results294,go_sem]
  exact⟨.returning,by cases c₀; simp_all,rfl,(Below.refl _ _).alloc (Nat.le_refl _) _⟩
set_option maxHeartbeats 1000000 in
theorem Ce (K:FuncId) (caps:Array Value) (v v2:Int) (Q:World→Prop) (he:∀w,(callFunc K caps).run Tryz.prog w=.ok (.enter K caps) w) (w:World)
  (h:∀w1,Below w.heap.size w w1→w.heap.size+1<w1.heap.size→Calls Tryz.prog K caps w1 fun e w'=>e=.returned (.agg #[.int .i64 v,.int .i64 v2])∧w'.heap[w.heap.size]?=w1.heap[w.heap.size]?∧w'.heap[w.heap.size+1]?=w1.heap[w.heap.size+1]?∧w1.heap.size≤w'.heap.size∧Q w') :
  Calls Tryz.prog 274 #[.func (.func K) #[] caps] w fun e w'=>e=.returned (.tuple #[.agg #[.int .i64 v,.int .i64 v2],.int .i64 0])∧∃w2,Q w2∧Exe w2.heap.size w.heap.size w2 w':=by
 have hmf:∀(fn:Fn) (first cap:Array Value) (w:World),(Instr.makeFunc fn first cap).run Tryz.prog w=.ok (.func fn first cap) w:=fun _ _ _ _=>rfl
 have HH:=fH h
 have hcall:∀w,(callFunc K caps).run Tryz.prog w=.ok (.enter K caps) w:=he
 clear h he
 go_enter_defers Tryz.func274,Tryz.ntmps274
 go_wp2_with (go_at_fn K; refine (HH.out _ (((Below.refl _ _).alloc (Nat.le_refl _) _).alloc (by simp) _) (by simp)).mono ?_; rintro e w1 ⟨rfl,hb1,hb2,hz1,hq⟩; obtain⟨hc1,hc2,hf1,hf2⟩:=dF hb1 hb2; have hz:w.heap.size+1<w1.heap.size:=(by simp at hz1; omega); have hd1:=hc1 0; have hd3:=hc1 1; have hd2:=hc2 0)
 refine leaves_cons (f:=294) (args:=#[.pointer (some ⟨w.heap.size,0,none⟩),.pointer (some ⟨w.heap.size+1,0,none⟩)]) (by simp) (by simp[go_sem]) ?_
 have hs:(((w1.setCell ⟨w.heap.size,0,none⟩ (.int .i64 v)).setCell ⟨w.heap.size,1,none⟩ (.int .i64 v2)).setCell ⟨w.heap.size+1,0,none⟩ (.int .i64 0)).heap.size=w1.heap.size:=by simp[World.setCell]
 refine (s5 w.heap.size _).mono ?_
 rintro e u' w2 ⟨rfl,rfl,hb2⟩
 rw[hs] at hb2
 have g1:w2.cell? ⟨w.heap.size,0,none⟩=some (.int .i64 v):=by
  rw[hb2.cell (p:=⟨w.heap.size,0,none⟩) (by show w.heap.size<_; omega),aY _ (by simp),aY _ (by simp)]
  exact bf _ hd1
 have g3:w2.cell? ⟨w.heap.size,1,none⟩=some (.int .i64 v2):=by
  rw[hb2.cell (p:=⟨w.heap.size,1,none⟩) (by show w.heap.size<_; omega),aY _ (by simp)]
  exact bf (u:=.int .i64 0) _ ((aY _ (by simp)).trans hd3)
 have g2:w2.cell? ⟨w.heap.size+1,0,none⟩=some (.int .i64 0):=by
  rw[hb2.cell (p:=⟨w.heap.size+1,0,none⟩) hz]
  exact bf (u:=.int .i64 0) _ ((aY _ (by simp)).trans ((aY _ (by simp)).trans hd2))
 clear HH hcall hmf hc1 hc2 hf1 hf2 hd1 hd2 hd3
 simp[Leaves,settle,results,Tryz.results274,go_sem,g1,g2,g3]
 exact⟨w1,hq,(((Exe.setO 0 _).trans (.setO 1 _)).trans (.set1 _)).trans (Exe.of hb2)⟩
set_option maxHeartbeats 1000000 in
theorem zO (K:FuncId) (caps:Array Value) (c:Int) (Q:World→Prop) (he:∀w,(callFunc K caps).run Tryz.prog w=.ok (.enter K caps) w) (w:World)
  (h:∀w1,Below w.heap.size w w1→w.heap.size+1<w1.heap.size→Calls Tryz.prog K caps w1 fun e w'=>e=.panicked (cN c)∧w'.heap[w.heap.size]?=w1.heap[w.heap.size]?∧w'.heap[w.heap.size+1]?=w1.heap[w.heap.size+1]?∧w1.heap.size≤w'.heap.size∧Q w') :
  Calls Tryz.prog 274 #[.func (.func K) #[] caps] w fun e w'=>e=.returned (.tuple #[.agg #[.int .i64 0,.int .i64 0],.int .i64 c])∧∃w2,Q w2∧Exe w2.heap.size w.heap.size w2 w':=by
 have hmf:∀(fn:Fn) (first cap:Array Value) (w:World),(Instr.makeFunc fn first cap).run Tryz.prog w=.ok (.func fn first cap) w:=fun _ _ _ _=>rfl
 have HH:=fH h
 have hcall:∀w,(callFunc K caps).run Tryz.prog w=.ok (.enter K caps) w:=he
 clear h he
 go_enter_defers Tryz.func274,Tryz.ntmps274
 go_wp2_with (go_at_fn K; refine (HH.out _ (((Below.refl _ _).alloc (Nat.le_refl _) _).alloc (by simp) _) (by simp)).mono ?_; rintro e w1 ⟨rfl,hb1,hb2,hz1,hq⟩; obtain⟨hc1,hc2,hf1,hf2⟩:=dF hb1 hb2; have hz:w.heap.size+1<w1.heap.size:=(by simp at hz1; omega))
 refine leaves_cons (f:=294) (args:=#[.pointer (some ⟨w.heap.size,0,none⟩),.pointer (some ⟨w.heap.size+1,0,none⟩)]) (by simp) (by simp[go_sem]) ?_
 refine (rU w.heap.size 0 0 0 c _ (hc1 0) (hc1 1) (hc2 0) (hf1 0) (hf1 1) (hf2 0) hz).mono ?_
 rintro e u' w2 ⟨rfl,rfl,g1,g3,g2,hb2⟩
 clear HH hcall hmf hc1 hc2 hf1 hf2
 simp[Leaves,settle,results,Tryz.results274,go_sem,g1,g2,g3]
 exact⟨w1,hq,hb2⟩
def zP:AVal→Bool
 |.agg [.int .i64 _,.int .i64 _]=>true
 |_=>false
def Tz:AVal→Value
 |.agg [.int _ a,.int _ b]=>.agg #[.int .i64 a,.int .i64 b]
 |_=>.int .i64 0
theorem s6:Tried2Ok Tryz.prog 274 191 zP Tz (.agg [.int .i64 0,.int .i64 0]) (.agg #[.int .i64 0,.int .i64 0]) where
 shape:=fun h g w u z hu hr=>by
  unfold zP at hu
  split at hu
  ·cases hr with
   |agg _ arr hl hr=>
    obtain⟨l⟩:=arr
    match l,hl with
    | [p,q],_=>
      have e0:=br (hr 0 _ p rfl rfl)
      have e1:=br (hr 1 _ q rfl rfl)
      subst e0; subst e1
      rfl
  ·cases hu
 rep:=fun h g w u hu=>by
  unfold zP at hu
  split at hu
  ·refine .agg _ _ rfl fun j c x hc hx=>?_
   match j with
   |0=>cases hc; cases hx; exact .int _ _
   |1=>cases hc; cases hx; exact .int _ _
   |j+2=>cases hc
  ·cases hu
 repz:=fun h g w=>by
  refine .agg _ _ rfl fun j c x hc hx=>?_
  match j with
  |0=>cases hc; cases hx; exact .int _ _
  |1=>cases hc; cases hx; exact .int _ _
  |j+2=>cases hc
 enter:=fun args w=>by kernel_rfl
 ok:=fun K caps u Q hu he w h=>by
  unfold zP at hu
  split at hu
  ·exact Ce K caps _ _ Q he w h
  ·cases hu
 err:=fun K caps c Q he w h=>zO K caps c Q he w h
theorem rV (b:Nat) (x:Value) (y c:Int) (w:World) (hp:w.cell? ⟨b,0,none⟩=some x) (hq:w.cell? ⟨b+1,0,none⟩=some (.int .i64 y)) (fp:w.frozen? ⟨b,0,none⟩=false) (fq:w.frozen? ⟨b+1,0,none⟩=false) (hqb:b+1<w.heap.size) :
  CallsD Tryz.prog 297 #[.pointer (some ⟨b,0,none⟩),.pointer (some ⟨b+1,0,none⟩)] (.panicking (cN c)) w fun e u' w'=>
   e=.returned (.tuple #[])∧u'=.panicking [{ v:=.iface 191 (.agg #[.int .i64 c]),recovered:=true }]∧w'.cell? ⟨b,0,none⟩=some .nilFunc∧w'.cell? ⟨b+1,0,none⟩=some (.int .i64 c)∧Exe w.heap.size b w w':=by
 refine callsD_of_wpS Tryz.func297 rfl fun c₀ cs hu=>?_
 apply wpS_seq
 apply wpS_region
 simp[wpOpsS,go_sem,recoverD,hu,cN,Tryz.ntmps297,Exit.thenS,Array.replicate,List.replicate]
 refine wpS_of_wp ?_
 clear hu
 have hta:=fun w=>ed c w
 have hst:∀w' m,(store ⟨b,0,none⟩ Value.nilFunc m).run Tryz.prog w'=stored Tryz.prog w' ⟨b,0,none⟩ Value.nilFunc m:=fun w' m=>run_store Tryz.prog w' _ _ m rfl
 have ha:∀o,Below w.heap.size w (w.alloc o):=fun o=>(Below.refl _ _).alloc (Nat.le_refl _) o
 have hp':∀o,(w.alloc o).cell? ⟨b,0,none⟩=some x:=fun o=>((ha o).cell (p:=⟨b,0,none⟩) (by simp; omega)).trans hp
 have hq':∀o,(w.alloc o).cell? ⟨b+1,0,none⟩=some (.int .i64 y):=fun o=>((ha o).cell (p:=⟨b+1,0,none⟩) (by simp; omega)).trans hq
 have fp':∀o,(w.alloc o).frozen? ⟨b,0,none⟩=false:=fun o=>((ha o).frozen (p:=⟨b,0,none⟩) (by simp; omega)).trans fp
 have fq':∀o,(w.alloc o).frozen? ⟨b+1,0,none⟩=false:=fun o=>((ha o).frozen (p:=⟨b+1,0,none⟩) (by simp; omega)).trans fq
 clear ha
 go_wp2
 go_region
 all_goals
  go_big_unhide
  simp[bodyPostS,results,Tryz.results297,go_sem]
  refine⟨bf _ (hp' _),bf (u:=.int .i64 y) _ ((aY _ (by simp)).trans (hq' _)),?_⟩
  exact (((Exe.of ((Below.refl w.heap.size w).alloc (Nat.le_refl _) _)).trans (.set _)).trans (.set1 _)).drew
theorem s7 (b:Nat) (w:World) :
  CallsD Tryz.prog 297 #[.pointer (some ⟨b,0,none⟩),.pointer (some ⟨b+1,0,none⟩)] .returning w fun e u' w'=>
   e=.returned (.tuple #[])∧u'=.returning∧Below w.heap.size w w':=by
 refine callsD_of_wpS Tryz.func297 rfl fun c₀ cs hu=>?_
 apply wpS_seq
 apply wpS_region
 simp[wpOpsS,go_sem,recoverD,hu,Tryz.ntmps297,Exit.thenS,Array.replicate,List.replicate]
 refine wpS_of_wp ?_
 have hta:=fun w=>ef w
 go_wp2
 all_goals
  simp[bodyPostS,results,Tryz.results297,go_sem]
  exact⟨.returning,by cases c₀; simp_all,rfl,(Below.refl _ _).alloc (Nat.le_refl _) _⟩
set_option maxHeartbeats 1000000 in
theorem Cf (K:FuncId) (caps:Array Value) (v:FuncId) (Q:World→Prop) (he:∀w,(callFunc K caps).run Tryz.prog w=.ok (.enter K caps) w) (w:World)
  (h:∀w1,Below w.heap.size w w1→w.heap.size+1<w1.heap.size→Calls Tryz.prog K caps w1 fun e w'=>e=.returned (.func (.func v) #[] #[])∧w'.heap[w.heap.size]?=w1.heap[w.heap.size]?∧w'.heap[w.heap.size+1]?=w1.heap[w.heap.size+1]?∧w1.heap.size≤w'.heap.size∧Q w') :
  Calls Tryz.prog 280 #[.func (.func K) #[] caps] w fun e w'=>e=.returned (.tuple #[.func (.func v) #[] #[],.int .i64 0])∧∃w2,Q w2∧Exe w2.heap.size w.heap.size w2 w':=by
 have hmf:∀(fn:Fn) (first cap:Array Value) (w:World),(Instr.makeFunc fn first cap).run Tryz.prog w=.ok (.func fn first cap) w:=fun _ _ _ _=>rfl
 have hst:∀w' m,(store ⟨w.heap.size,0,none⟩ (Value.func (.func v) #[] #[]) m).run Tryz.prog w'=stored Tryz.prog w' ⟨w.heap.size,0,none⟩ (Value.func (.func v) #[] #[]) m:=fun w' m=>run_store Tryz.prog w' _ _ m rfl
 have HH:=fH h
 have hcall:∀w,(callFunc K caps).run Tryz.prog w=.ok (.enter K caps) w:=he
 clear h he
 go_enter_defers Tryz.func280,Tryz.ntmps280
 go_wp2_with (go_at_fn K; refine (HH.out _ (((Below.refl _ _).alloc (Nat.le_refl _) _).alloc (by simp) _) (by simp)).mono ?_; rintro e w1 ⟨rfl,hb1,hb2,hz1,hq⟩; obtain⟨hc1,hc2,hf1,hf2⟩:=dF hb1 hb2; have hz:w.heap.size+1<w1.heap.size:=(by simp at hz1; omega); have hd1:=hc1 0; have hd2:=hc2 0)
 refine leaves_cons (f:=297) (args:=#[.pointer (some ⟨w.heap.size,0,none⟩),.pointer (some ⟨w.heap.size+1,0,none⟩)]) (by simp) (by simp[go_sem]) ?_
 have hs:((w1.setCell ⟨w.heap.size,0,none⟩ (.func (.func v) #[] #[])).setCell ⟨w.heap.size+1,0,none⟩ (.int .i64 0)).heap.size=w1.heap.size:=by simp[World.setCell]
 refine (s7 w.heap.size _).mono ?_
 rintro e u' w2 ⟨rfl,rfl,hb2⟩
 rw[hs] at hb2
 have g1:w2.cell? ⟨w.heap.size,0,none⟩=some (.func (.func v) #[] #[]):=by
  rw[hb2.cell (p:=⟨w.heap.size,0,none⟩) (by show w.heap.size<_; omega),aY _ (by simp)]
  exact bf _ hd1
 have g2:w2.cell? ⟨w.heap.size+1,0,none⟩=some (.int .i64 0):=by
  rw[hb2.cell (p:=⟨w.heap.size+1,0,none⟩) hz]
  exact bf (u:=.int .i64 0) _ ((aY _ (by simp)).trans hd2)
 clear HH hcall hmf hc1 hc2 hf1 hf2 hd1 hd2
 simp[Leaves,settle,results,Tryz.results280,go_sem,g1,g2]
 exact⟨w1,hq,((Exe.set _).trans (.set1 _)).trans (Exe.of hb2)⟩
set_option maxHeartbeats 1000000 in
theorem zQ (K:FuncId) (caps:Array Value) (c:Int) (Q:World→Prop) (he:∀w,(callFunc K caps).run Tryz.prog w=.ok (.enter K caps) w) (w:World)
  (h:∀w1,Below w.heap.size w w1→w.heap.size+1<w1.heap.size→Calls Tryz.prog K caps w1 fun e w'=>e=.panicked (cN c)∧w'.heap[w.heap.size]?=w1.heap[w.heap.size]?∧w'.heap[w.heap.size+1]?=w1.heap[w.heap.size+1]?∧w1.heap.size≤w'.heap.size∧Q w') :
  Calls Tryz.prog 280 #[.func (.func K) #[] caps] w fun e w'=>e=.returned (.tuple #[.nilFunc,.int .i64 c])∧∃w2,Q w2∧Exe w2.heap.size w.heap.size w2 w':=by
 have hmf:∀(fn:Fn) (first cap:Array Value) (w:World),(Instr.makeFunc fn first cap).run Tryz.prog w=.ok (.func fn first cap) w:=fun _ _ _ _=>rfl
 have HH:=fH h
 have hcall:∀w,(callFunc K caps).run Tryz.prog w=.ok (.enter K caps) w:=he
 clear h he
 go_enter_defers Tryz.func280,Tryz.ntmps280
 go_wp2_with (go_at_fn K; refine (HH.out _ (((Below.refl _ _).alloc (Nat.le_refl _) _).alloc (by simp) _) (by simp)).mono ?_; rintro e w1 ⟨rfl,hb1,hb2,hz1,hq⟩; obtain⟨hc1,hc2,hf1,hf2⟩:=dF hb1 hb2; have hz:w.heap.size+1<w1.heap.size:=(by simp at hz1; omega))
 refine leaves_cons (f:=297) (args:=#[.pointer (some ⟨w.heap.size,0,none⟩),.pointer (some ⟨w.heap.size+1,0,none⟩)]) (by simp) (by simp[go_sem]) ?_
 refine (rV w.heap.size _ 0 c _ (hc1 0) (hc2 0) (hf1 0) (hf2 0) hz).mono ?_
 rintro e u' w2 ⟨rfl,rfl,g1,g2,hb2⟩
 clear HH hcall hmf hc1 hc2 hf1 hf2
 simp[Leaves,settle,results,Tryz.results280,go_sem,g1,g2]
 exact⟨w1,hq,hb2⟩
def zR:AVal→Bool
 |.fn _ []=>true
 |_=>false
def TA:AVal→Value
 |.fn f _=>.func (.func f) #[] #[]
 |_=>.nilFunc
theorem s8:Tried2Ok Tryz.prog 280 191 zR TA .nilfn .nilFunc where
 shape:=fun h g w u z hu hr=>by
  unfold zR at hu
  split at hu
  ·obtain⟨arr,rfl,hl⟩:=rI hr
   have:arr=#[]:=Array.eq_empty_of_size_eq_zero hl.symm
   subst this
   rfl
  ·cases hu
 rep:=fun h g w u hu=>by
  unfold zR at hu
  split at hu
  ·exact .fn _ _ _ rfl fun j c x hc=>by simp at hc
  ·cases hu
 repz:=fun h g w=>.nilfn
 enter:=fun args w=>by kernel_rfl
 ok:=fun K caps u Q hu he w h=>by
  unfold zR at hu
  split at hu
  ·exact Cf K caps _ Q he w h
  ·cases hu
 err:=fun K caps c Q he w h=>zQ K caps c Q he w h
noncomputable def fsD:FuncId→Option Fsp:=fun g=>
 if g=277 then some pB else
 if g=176 then some pC else
 if g=283 then some O2 else
 if g=284 then some OY else
 if g=271 then some OZ else
 fsC g
theorem Cg:aD fsD:=
 ae B9 <|
 ae Ca <|
 ae O4 <|
 ae O0 <|
 ae O1 <|
 nO
noncomputable def spB:FuncId→Option (Cv→Cv):=fun g=>
 if g=65 then some (gR fxm sW (.int .i64 0)) else
 if g=272 then some (gR fxm zN (.bool false)) else
 if g=274 then some (gR fxm zP (.agg [.int .i64 0,.int .i64 0])) else
 if g=280 then some (gR fxm zR .nilfn) else
 spA g
theorem gT:jb spB:=
 ea (fun cv h caps=>ir sX cv h caps) <|
 ea (fun cv h caps=>ir sZ cv h caps) <|
 ea (fun cv h caps=>ir s6 cv h caps) <|
 ea (fun cv h caps=>ir s8 cv h caps) <|
 ec
/-! Closures that are called in regions that draw their order. -/
noncomputable def wz:Fsp:=fun _ args k=>match args with
 | [.int .i64 x,.int .i64 _,.rp [.int .u64 h,.int .u64 l]]=>bif i6 x&&shB (ab x) h l then k (i1 (sg (ngB x) (shr (ab x) (vw h l)))) else none
 |_=>none
theorem rW {x h l:Int} (hb:shB x h l=true):0≤shr x (vw h l)∧shr x (vw h l)≤65536∧jU x (vw h l) (shr x (vw h l)).toNat=true∧jU x (vw h l) ((shr x (vw h l)).toNat+1)=false:=by
 simp only[shB,Bool.and_eq_true,decide_eq_true_eq] at hb
 obtain⟨⟨⟨⟨x0,x1⟩,hh,hl⟩,hs0,hs⟩,hx⟩:=hb
 have a:=pu (jU x (vw h l)) (fun m n=>Lp (Int.le_of_lt hs0) m n) 17 0 (zI x0) (ww hs0 hx _ (by decide))
 rw[Lo]
 refine⟨by omega,?_,a.1,a.2.1⟩
 rcases Nat.lt_or_ge (bs (jU x (vw h l)) 17 0) 65537 with h|h
 ·omega
 ·have:=ww hs0 hx _ h; rw[a.1] at this; cases this
theorem Ch (N n:Nat) (α:Type) (x y h l:Int) (k:AOut→Option α):am real tab ((twT fsD spB).env real tab N (n+2)) N Tryz.f276 α [iN x,iN y,.rp [uN h,uN l]] k =
 bif i6 x then bif shB (ab x) h l then bif wB (shr (ab x) (vw h l)) then gD (decide (x<0)) (shr (ab x) (vw h l)) k else none else none else none:=by kernel_rfl
theorem Hc:FspOk Tryz.prog 276 wz:=ar Cg gT ⟨Tryz.func276,fun _ _=>by kernel_rfl⟩ (by intro α args k; unfold wz; split<;>simp only[ak,Option.bind_some,Option.bind_none]) fun args out hs h=>by
 unfold wz at h
 split at h
 ·rename_i x y h1 l
  refine⟨8,2,(Ch 8 0 AOut x y h1 l some).trans (Eq.trans ?_ h)⟩
  cases hx:i6 x
  ·rw[hx] at h; cases h
  ·cases hb:shB (ab x) h1 l
   ·rfl
   ·have a:=rW hb
    simp only[bq.2 (show bH (shr (ab x) (vw h1 l)) from ⟨a.1,by omega⟩),gD,fxB,decide_eq_true (show shr (ab x) (vw h1 l)≤70368744177664 by omega),Bool.and_self,cond_true]
    rfl
 ·cases h
def pD:Fsp:=fun _ args k=>match args with
 | [.int .i64 x,.int .i64 _,.rp [.int .i64 b],.rp [.fn g []]]=>
   match uB g with
   |some how=>bif okB x&&okB b then gD (xorB (ngB x) (ngB b)) (prP x b how) k else k (mis fxm 2)
   |none=>none
 |_=>none
def jf {α:Type} (x b how:Int) (k:AOut→Option α):Option α:=bif okB x&&okB b then gD (xorB (ngB x) (ngB b)) (prP x b how) k else k (mis fxm 2)
theorem wC (N n:Nat) (α:Type) (x y b:Int) (k:AOut→Option α):am real tab ((twT fsD spB).env real tab N (n+2)) N Tryz.f282 α [iN x,iN y,.rp [iN b],.rp [.fn 117 []]] k=jf x b 0 k:=by kernel_rfl
theorem wD (N n:Nat) (α:Type) (x y b:Int) (k:AOut→Option α):am real tab ((twT fsD spB).env real tab N (n+2)) N Tryz.f282 α [iN x,iN y,.rp [iN b],.rp [.fn 118 []]] k=jf x b 1 k:=by kernel_rfl
theorem wE (N n:Nat) (α:Type) (x y b:Int) (k:AOut→Option α):am real tab ((twT fsD spB).env real tab N (n+2)) N Tryz.f282 α [iN x,iN y,.rp [iN b],.rp [.fn 119 []]] k=jf x b 2 k:=by kernel_rfl
theorem wF (N n:Nat) (α:Type) (x y b:Int) (k:AOut→Option α):am real tab ((twT fsD spB).env real tab N (n+2)) N Tryz.f282 α [iN x,iN y,.rp [iN b],.rp [.fn 120 []]] k=jf x b 3 k:=by kernel_rfl
theorem Ci:FspOk Tryz.prog 282 pD:=ar Cg gT ⟨Tryz.func282,fun _ _=>by kernel_rfl⟩ (by intro α args k; unfold pD; split<;>(try split)<;>simp only[ak,kx,Option.bind_some,Option.bind_none]) fun args out hs h=>by
 unfold pD at h
 split at h
 ·rename_i x y b g
  split at h
  ·rename_i how hg
   rcases ky hg with hf|⟨rfl,rfl⟩|⟨rfl,rfl⟩|⟨rfl,rfl⟩|⟨rfl,rfl⟩
   ·cases hf
   ·exact⟨8,2,(wC 8 0 AOut x y b some).trans h⟩
   ·exact⟨8,2,(wD 8 0 AOut x y b some).trans h⟩
   ·exact⟨8,2,(wE 8 0 AOut x y b some).trans h⟩
   ·exact⟨8,2,(wF 8 0 AOut x y b some).trans h⟩
  ·cases h
 ·cases h
noncomputable def fsE:FuncId→Option Fsp:=fun g=>
 if g=276 then some wz else
 if g=282 then some pD else
 fsD g
theorem jV:aD fsE:=
 ae Hc <|
 ae Ci <|
 Cg
/-! Sums and differences of spots. -/
def s9 (p q:Int) (ok:Bool):Int × Int × Int:=bif ok then (bif fxB (ab p)&&fxB (ab q) then (p,q,0) else (0,0,4)) else (0,0,2)
def plP (x y u v:Int):Int × Int × Int:=s9 (x+u) (y+v) (four x y u v)
def miP (x y u v:Int):Int × Int × Int:=s9 (x-u) (y-v) (four x y u v)
def plX (x y u v:Int):Int:=(plP x y u v).1
def plY (x y u v:Int):Int:=(plP x y u v).2.1
def plE (x y u v:Int):Int:=(plP x y u v).2.2
def miX (x y u v:Int):Int:=(miP x y u v).1
def miY (x y u v:Int):Int:=(miP x y u v).2.1
def miE (x y u v:Int):Int:=(miP x y u v).2.2
def rX:Fsp:=fun _ args k=>match args with
 | [.agg [.int .i64 x,.int .i64 y],.agg [.int .i64 u,.int .i64 v]]=>k (s2 (plX x y u v) (plY x y u v) (plE x y u v))
 |_=>none
def mK:Fsp:=fun _ args k=>match args with
 | [.agg [.int .i64 x,.int .i64 y],.agg [.int .i64 u,.int .i64 v]]=>k (s2 (miX x y u v) (miY x y u v) (miE x y u v))
 |_=>none
def pE {α:Type} (x y u v p q:Int) (k:AOut→Option α):Option α:=
 bif [x,y,u,v].all okB then
  bif okB x&&okB u then
   bif fxB (ab p) then
    bif okB y&&okB v then
     bif fxB (ab q) then k (s2 p q 0) else k (s2 0 0 4)
    else k (s2 0 0 2)
   else k (s2 0 0 4)
  else k (s2 0 0 2)
 else k (s2 0 0 2)
theorem Ex {α:Type} (x y u v p q:Int) (k:AOut→Option α):pE x y u v p q k=k (s2 (s9 p q (four x y u v)).1 (s9 p q (four x y u v)).2.1 (s9 p q (four x y u v)).2.2):=by
 unfold pE s9 four
 rw[OX]
 cases okB x<;>cases okB y<;>cases okB u<;>cases okB v<;>cases fxB (ab p)<;>cases fxB (ab q)<;>rfl
theorem Cj (N n:Nat) (α:Type) (x y u v:Int) (k:AOut→Option α):am real tab ((twT fsE spB).env real tab N (n+6)) N Tryz.f258 α [sN x y,sN u v] k=pE x y u v (x+u) (y+v) k:=by kernel_rfl
theorem uC:FspOk Tryz.prog 258 rX:=ar jV gT ⟨Tryz.func258,fun _ _=>by kernel_rfl⟩ (by intro α args k; unfold rX; split<;>rfl) fun args out hs h=>by
 unfold rX at h
 split at h
 ·rename_i x y u v
  exact⟨8,6,(Cj 8 0 AOut x y u v some).trans ((Ex ..).trans h)⟩
 ·cases h
theorem zS (N n:Nat) (α:Type) (x y u v:Int) (k:AOut→Option α):am real tab ((twT fsE spB).env real tab N (n+6)) N Tryz.f251 α [sN x y,sN u v] k=pE x y u v (x-u) (y-v) k:=by kernel_rfl
theorem rY:FspOk Tryz.prog 251 mK:=ar jV gT ⟨Tryz.func251,fun _ _=>by kernel_rfl⟩ (by intro α args k; unfold mK; split<;>rfl) fun args out hs h=>by
 unfold mK at h
 split at h
 ·rename_i x y u v
  exact⟨8,6,(zS 8 0 AOut x y u v some).trans ((Ex ..).trans h)⟩
 ·cases h
/-! Within. -/
def mL:Fsp:=fun _ args k=>match args with
 | [.agg [.int .i64 x,.int .i64 y],.int .i64 r]=>k (b2 (Lb x y r) (Ts x y r))
 |_=>none
theorem Ey (a b:Int):decide (ja a b≤0)=decide (a≤b):=by
 rw[decide_eq_decide]; unfold ja; repeat' split
 all_goals omega
theorem Lt {x y:Int} (hx:okB x=true) (hy:okB y=true):0≤sq2 x y∧sq2 x y≤9903520314283042199192993792:=by
 have a:=b9 hx hx
 have b:=b9 hy hy
 unfold sq2; omega
theorem rZ (x:Int):ab x*ab x=x*x:=by unfold ab; split; exact Int.neg_mul_neg x x; rfl
theorem zT (N n:Nat) (α:Type) (x y u:Int) (k:AOut→Option α):am real tab ((twT fsE spB).env real tab N (n+6)) N Tryz.f252 α [sN x y,iN u] k =
 bif okB x&&okB y then bif [u].all okB then bif decide (u≥0) then bif i6 u then bif i6 u then bif wB (ab u)&&wB (ab u) then bif wB (loW (sq2 x y))&&wB (loW (ab u*ab u))
 then k (b2 (decide (ja (vw (hiW (sq2 x y)) (loW (sq2 x y))) (vw (hiW (ab u*ab u)) (loW (ab u*ab u)))≤0)) 0) else none else none else none else none else k (b2 false 0) else
 k (b2 false 2) else k (b2 false 2):=by kernel_rfl
theorem zU:FspOk Tryz.prog 252 mL:=ar jV gT ⟨Tryz.func252,fun _ _=>by kernel_rfl⟩ (by intro α args k; unfold mL; split<;>rfl) fun args out hs h=>by
 unfold mL at h
 split at h
 ·rename_i x y u
  refine⟨8,6,(zT 8 0 AOut x y u some).trans (Eq.trans ?_ h)⟩
  unfold Lb Ts RN
  rw[RV]
  cases hx:okB x
  ·rfl
  ·cases hy:okB y
   ·rfl
   ·cases hu:okB u
    ·rfl
    ·simp only[cK hu,ip (cK hu),jm,fI,Ey,Bool.and_self,cond_true,rZ]
     by_cases h0:0≤u
     ·rw[decide_eq_true h0]; rfl
     ·rw[decide_eq_false h0]; rfl
 ·cases h
/-! Unit. -/
noncomputable def Lu:Fsp:=fun _ args k=>match args with
 | [.agg [.int .i64 x,.int .i64 y]]=>k (s2 (du x y x) (du x y y) (wc x y))
 |_=>none
theorem O5 (n:Int):(!!(hiW n==0&&(loW n==0&&true)))=(n==0):=by
 have e:=mH n
 rw[Bool.not_not,Bool.and_true]
 by_cases h:n=0
 ·subst h; rfl
 ·rw[beq_eq_false_iff_ne.2 h]
  by_cases h1:hiW n=0
  ·rw[beq_iff_eq.2 h1,beq_eq_false_iff_ne.2 (show loW n≠0 by omega)]; rfl
  ·rw[beq_eq_false_iff_ne.2 h1]; rfl
theorem Cl {x y:Int} (hx:okB x=true) (hy:okB y=true) (hz:sq2 x y≠0):shB (ab x) (hiW (sq2 x y)) (loW (sq2 x y))=true∧shB (ab y) (hiW (sq2 x y)) (loW (sq2 x y))=true:=by
 have a:=b9 hx hx
 have b:=b9 hy hy
 have s:=Lt hx hy
 have hw:=iq (show 0≤sq2 x y∧sq2 x y<_ from ⟨s.1,by omega⟩)
 have e1:ab x*ab x≤sq2 x y:=by unfold sq2; omega
 have e2:ab y*ab y≤sq2 x y:=by unfold sq2; omega
 simp only[shB,hw,jm,fI,decide_eq_true (cB x),decide_eq_true (cB y),decide_eq_true (Em hx),decide_eq_true (Em hy),decide_eq_true (show 0<sq2 x y by omega),decide_eq_true (show sq2 x y<19807040628566084398385987584 by omega),decide_eq_true e1,decide_eq_true e2,Bool.and_self]
 trivial
theorem Hd (N n:Nat) (α:Type) (x y:Int) (k:AOut→Option α):am real tab ((twT fsE spB).env real tab N (n+6)) N Tryz.f254 α [sN x y] k =
 bif okB x&&okB y then bif !!(hiW (sq2 x y)==0&&(loW (sq2 x y)==0&&true)) then k (s2 0 0 10) else bif [x,y,x,y].all okB then bif i6 x&&shB (ab x) (hiW (sq2 x y)) (loW
 (sq2 x y)) then bif i6 y&&shB (ab y) (hiW (sq2 x y)) (loW (sq2 x y)) then k (s2 (sg (ngB x) (shr (ab x) (vw (hiW (sq2 x y)) (loW (sq2 x y))))) (sg (ngB y) (shr (ab y) (vw (hiW
 (sq2 x y)) (loW (sq2 x y))))) 0) else none else none else k (s2 0 0 0) else k (s2 0 0 2):=by kernel_rfl
theorem Ez:FspOk Tryz.prog 254 Lu:=ar jV gT ⟨Tryz.func254,fun _ _=>by kernel_rfl⟩ (by intro α args k; unfold Lu; split<;>rfl) fun args out hs h=>by
 unfold Lu at h
 split at h
 ·rename_i x y
  refine⟨8,6,(Hd 8 0 AOut x y some).trans (Eq.trans ?_ h)⟩
  unfold du wc wb
  rw[OX,O5]
  cases hx:okB x
  ·rfl
  ·cases hy:okB y
   ·rfl
   ·cases hz:sq2 x y==0
    ·obtain⟨a,b⟩:=Cl hx hy (beq_eq_false_iff_ne.1 hz)
     simp only[cK hx,cK hy,a,b,fI,Bool.and_self,cond_true,cond_false]
    ·rfl
 ·cases h
def Cm {α:Type} (neg:Bool) (n:Int) (k:AOut→Option α):Option α:=bif fxB n then k (i2 (sg neg n) 0) else k (i2 0 4)
theorem EA {α:Type} (neg:Bool) (n:Int) (k:AOut→Option α):Cm neg n k=k (i2 (fxV neg n) (fxE n)):=by
 unfold Cm fxV fxE; cases fxB n<;>rfl
/-! Times. -/
def Cn (x y b:Int):Bool:=okB x&&okB y&&okB b
def r5 (x y b how:Int):Bool:=fxB (prP x b how)&&fxB (prP y b how)
def tiV (x y b how c:Int):Int:=bif Cn x y b&&r5 x y b how then sg (xorB (ngB c) (ngB b)) (prP c b how) else 0
def tiE (x y b how:Int):Int:=bif Cn x y b then (bif r5 x y b how then 0 else 4) else 2
def r6:Fsp:=fun _ args k=>match args with
 | [.agg [.int .i64 x,.int .i64 y],.int .i64 b,.int .i64 how]=>bif i9 how then k (s2 (tiV x y b how x) (tiV x y b how y) (tiE x y b how)) else none
 |_=>none
def fY {α:Type} (x y b how:Int) (k:AOut→Option α):Option α:=
 bif [x,y,b].all okB then
  bif [x,y,x,y].all okB then
   bif okB x&&okB b then
    bif fxB (prP x b how) then
     bif okB y&&okB b then
      bif fxB (prP y b how) then k (s2 (sg (xorB (ngB x) (ngB b)) (prP x b how)) (sg (xorB (ngB y) (ngB b)) (prP y b how)) 0)
      else k (s2 0 0 4)
     else k (s2 0 0 2)
    else k (s2 0 0 4)
   else k (s2 0 0 2)
  else k (s2 0 0 2)
 else k (s2 0 0 2)
theorem kA {α:Type} (x y b how:Int) (k:AOut→Option α):fY x y b how k=k (s2 (tiV x y b how x) (tiV x y b how y) (tiE x y b how)):=by
 unfold fY tiV tiE Cn r5
 rw[T8,OX]
 cases okB x<;>cases okB y<;>cases okB b<;>cases fxB (prP x b how)<;>cases fxB (prP y b how)<;>rfl
theorem zV (N n:Nat) (α:Type) (x y b:Int) (k:AOut→Option α):am real tab ((twT fsE spB).env real tab N (n+6)) N Tryz.f257 α [sN x y,iN b,iN 0] k=fY x y b 0 k:=by kernel_rfl
theorem zW (N n:Nat) (α:Type) (x y b:Int) (k:AOut→Option α):am real tab ((twT fsE spB).env real tab N (n+6)) N Tryz.f257 α [sN x y,iN b,iN 1] k=fY x y b 1 k:=by kernel_rfl
theorem zX (N n:Nat) (α:Type) (x y b:Int) (k:AOut→Option α):am real tab ((twT fsE spB).env real tab N (n+6)) N Tryz.f257 α [sN x y,iN b,iN 2] k=fY x y b 2 k:=by kernel_rfl
theorem zY (N n:Nat) (α:Type) (x y b:Int) (k:AOut→Option α):am real tab ((twT fsE spB).env real tab N (n+6)) N Tryz.f257 α [sN x y,iN b,iN 3] k=fY x y b 3 k:=by kernel_rfl
theorem uD:FspOk Tryz.prog 257 r6:=ar jV gT ⟨Tryz.func257,fun _ _=>by kernel_rfl⟩ (by intro α args k; unfold r6; split<;>simp only[ak,Option.bind_some,Option.bind_none]) fun args out hs h=>by
 unfold r6 at h
 split at h
 ·rename_i x y b how
  cases hw:i9 how
  ·rw[hw] at h; cases h
  ·rw[hw,cond_true] at h
   rcases kv hw with rfl|rfl|rfl|rfl
   ·exact⟨8,6,(zV 8 0 AOut x y b some).trans ((kA ..).trans h)⟩
   ·exact⟨8,6,(zW 8 0 AOut x y b some).trans ((kA ..).trans h)⟩
   ·exact⟨8,6,(zX 8 0 AOut x y b some).trans ((kA ..).trans h)⟩
   ·exact⟨8,6,(zY 8 0 AOut x y b some).trans ((kA ..).trans h)⟩
 ·cases h
/-! Dot. -/
def dtP (s how:Int):Int:=gC how (ngB s) (ab s) 65536
def dtV (x y u v how:Int):Int:=bif four x y u v then fxV (ngB (dotS x y u v)) (dtP (dotS x y u v) how) else 0
def dtE (x y u v how:Int):Int:=bif four x y u v then fxE (dtP (dotS x y u v) how) else 2
def zZ:Fsp:=fun _ args k=>match args with
 | [.agg [.int .i64 x,.int .i64 y],.agg [.int .i64 u,.int .i64 v],.int .i64 how]=>bif i9 how then k (i2 (dtV x y u v how) (dtE x y u v how)) else none
 |_=>none
def kB {α:Type} (x u v w how:Int) (k:AOut→Option α):Option α:=
 bif [x,u,v,w].all okB then
  bif i6 x then
   bif i6 v then
    bif wB (ab x)&&wB (ab v) then
     bif i6 u then
      bif i6 w then
       bif wB (ab u)&&wB (ab w) then
        bif (!(decide (x<0)==decide (v<0)))==(!(decide (u<0)==decide (w<0))) then
         bif wB (hiW (ab x*ab v))&&wB (loW (ab x*ab v))&&wB (hiW (ab u*ab w))&&wB (loW (ab u*ab w))&&decide (vw (hiW (ab x*ab v)) (loW (ab x*ab v))+vw (hiW (ab u*ab w)) (loW (ab u*ab w))<340282366920938463463374607431768211456) then
          bif wB (hiW (vw (hiW (ab x*ab v)) (loW (ab x*ab v))+vw (hiW (ab u*ab w)) (loW (ab u*ab w))))&&wB (loW (vw (hiW (ab x*ab v)) (loW (ab x*ab v))+vw (hiW (ab u*ab w)) (loW (ab u*ab w))))&&wB 65536&&decide ((0:Int)<65536) then
           Cm (!(decide (x<0)==decide (v<0))) (gC how (!(decide (x<0)==decide (v<0))) (vw (hiW (vw (hiW (ab x*ab v)) (loW (ab x*ab v))+vw (hiW (ab u*ab w)) (loW (ab u*ab w)))) (loW (vw (hiW (ab x*ab v)) (loW (ab x*ab v))+vw (hiW (ab u*ab w)) (loW (ab u*ab w))))) 65536) k
          else none
         else none
        else
         bif wB (loW (ab x*ab v))&&wB (loW (ab u*ab w)) then
          bif decide (ja (vw (hiW (ab x*ab v)) (loW (ab x*ab v))) (vw (hiW (ab u*ab w)) (loW (ab u*ab w)))≥0) then
           bif wB (hiW (ab x*ab v))&&wB (loW (ab x*ab v))&&wB (hiW (ab u*ab w))&&wB (loW (ab u*ab w))&&decide (vw (hiW (ab u*ab w)) (loW (ab u*ab w))≤vw (hiW (ab x*ab v)) (loW (ab x*ab v))) then
            bif wB (hiW (vw (hiW (ab x*ab v)) (loW (ab x*ab v))-vw (hiW (ab u*ab w)) (loW (ab u*ab w))))&&wB (loW (vw (hiW (ab x*ab v)) (loW (ab x*ab v))-vw (hiW (ab u*ab w)) (loW (ab u*ab w))))&&wB 65536&&decide ((0:Int)<65536) then
             Cm (!(decide (x<0)==decide (v<0))) (gC how (!(decide (x<0)==decide (v<0))) (vw (hiW (vw (hiW (ab x*ab v)) (loW (ab x*ab v))-vw (hiW (ab u*ab w)) (loW (ab u*ab w)))) (loW (vw (hiW (ab x*ab v)) (loW (ab x*ab v))-vw (hiW (ab u*ab w)) (loW (ab u*ab w))))) 65536) k
            else none
           else none
          else
           bif wB (hiW (ab u*ab w))&&wB (loW (ab u*ab w))&&wB (hiW (ab x*ab v))&&wB (loW (ab x*ab v))&&decide (vw (hiW (ab x*ab v)) (loW (ab x*ab v))≤vw (hiW (ab u*ab w)) (loW (ab u*ab w))) then
            bif wB (hiW (vw (hiW (ab u*ab w)) (loW (ab u*ab w))-vw (hiW (ab x*ab v)) (loW (ab x*ab v))))&&wB (loW (vw (hiW (ab u*ab w)) (loW (ab u*ab w))-vw (hiW (ab x*ab v)) (loW (ab x*ab v))))&&wB 65536&&decide ((0:Int)<65536) then
             Cm (!(decide (u<0)==decide (w<0))) (gC how (!(decide (u<0)==decide (w<0))) (vw (hiW (vw (hiW (ab u*ab w)) (loW (ab u*ab w))-vw (hiW (ab x*ab v)) (loW (ab x*ab v)))) (loW (vw (hiW (ab u*ab w)) (loW (ab u*ab w))-vw (hiW (ab x*ab v)) (loW (ab x*ab v))))) 65536) k
            else none
           else none
         else none
       else none
      else none
     else none
    else none
   else none
  else none
 else k (i2 0 2)
theorem Co (a b:Int):a*b=sg (xorB (ngB a) (ngB b)) (ab a*ab b):=by
 unfold sg xorB ngB ab
 by_cases h1:a<0<;>by_cases h2:b<0<;>simp[h1,h2,Int.neg_mul,Int.mul_neg]
theorem TB (how:Int) (neg:Bool):gC how neg 0 65536=0:=by
 unfold gC rnd up1; simp
theorem r7 {α:Type} {s N how:Int} {neg:Bool} (hs:s=sg neg N) (hN:0≤N) (k:AOut→Option α):Cm neg (gC how neg N 65536) k=k (i2 (fxV (ngB s) (dtP s how)) (fxE (dtP s how))):=by
 rw[EA]
 unfold dtP
 rcases Int.lt_or_eq_of_le hN with h|h
 ·have e1:ngB s=neg∧ab s=N:=by
   subst hs; unfold ngB ab sg
   cases neg
   ·simp only[cond_false]; rw[decide_eq_false (by omega),if_neg (by omega)]; exact⟨rfl,rfl⟩
   ·simp only[cond_true]; rw[decide_eq_true (by omega),if_pos (by omega)]; exact⟨rfl,by omega⟩
  rw[e1.1,e1.2]
 ·subst h
  have e:s=0:=by subst hs; cases neg<;>rfl
  subst e
  rw[show ab 0=0 from rfl,TB,TB]
  cases neg<;>rfl
theorem pF {α:Type} (x u v w how:Int) (k:AOut→Option α):kB x u v w how k=k (i2 (dtV x u v w how) (dtE x u v w how)):=by
 unfold kB dtV dtE four
 rw[OX]
 cases hx:okB x
 ·rfl
 ·cases hu:okB u
  ·rfl
  ·cases hv:okB v
   ·rfl
   ·cases hw:okB w
    ·rfl
    ·have p:=b9 hx hv
     have q:=b9 hu hw
     have e1:=Co x v
     have e2:=Co u w
     simp only[cK hx,cK hu,cK hv,cK hw,ip (cK hx),ip (cK hu),ip (cK hv),ip (cK hw),jm,fI,iq (show 0≤ab x*ab v∧ab x*ab v<_ from ⟨p.1,by omega⟩),iq (show 0≤ab u*ab w∧ab u*ab w<_ from ⟨q.1,by omega⟩),Bool.and_self,cond_true,show wB 65536=true from rfl,show decide ((0:Int)<65536)=true from rfl,Bool.true_and]
     have e3:dotS x u v w=x*v+u*w:=rfl
     have g1:(!(decide (x<0)==decide (v<0)))=xorB (ngB x) (ngB v):=rfl
     have g2:(!(decide (u<0)==decide (w<0)))=xorB (ngB u) (ngB w):=rfl
     rw[g1,g2]
     generalize xorB (ngB x) (ngB v)=m at *
     generalize xorB (ngB u) (ngB w)=n at *
     generalize ab x*ab v=P at *
     generalize ab u*ab w=Q at *
     rw[e1,e2] at e3
     generalize dotS x u v w=s at *
     by_cases hmn:m=n
     ·subst hmn
      rw[beq_self_eq_true,cond_true,decide_eq_true (show P+Q<340282366920938463463374607431768211456 by omega),iq (show 0≤P+Q∧P+Q<_ from ⟨by omega,by omega⟩)]
      simp only[Bool.and_self,cond_true]
      exact r7 (by rw[e3]; cases m<;>simp[sg]; omega) (by omega) k
     ·rw[beq_eq_false_iff_ne.2 hmn,cond_false]
      have hn:n=!m:=by cases m<;>cases n<;>simp at hmn ⊢
      subst hn
      by_cases hc:Q≤P
      ·rw[decide_eq_true (show ja P Q≥0 by unfold ja; repeat' split
                                           all_goals omega),decide_eq_true hc,iq (show 0≤P-Q∧P-Q<_ from ⟨by omega,by omega⟩)]
       simp only[Bool.and_self,cond_true]
       exact r7 (by rw[e3]; cases m<;>simp[sg]<;>omega) (by omega) k
      ·rw[decide_eq_false (show ¬ja P Q≥0 by unfold ja; repeat' split
                                             all_goals omega),decide_eq_true (show P≤Q by omega),iq (show 0≤Q-P∧Q-P<_ from ⟨by omega,by omega⟩)]
       simp only[Bool.and_self,cond_true,cond_false]
       exact r7 (by rw[e3]; cases m<;>simp[sg]<;>omega) (by omega) k
theorem He (N n:Nat) (α:Type) (x u v w:Int) (k:AOut→Option α):am real tab ((twT fsE spB).env real tab N (n+6)) N Tryz.f256 α [sN x u,sN v w,iN 0] k=kB x u v w 0 k:=by kernel_rfl
theorem Hf (N n:Nat) (α:Type) (x u v w:Int) (k:AOut→Option α):am real tab ((twT fsE spB).env real tab N (n+6)) N Tryz.f256 α [sN x u,sN v w,iN 1] k=kB x u v w 1 k:=by kernel_rfl
theorem Hg (N n:Nat) (α:Type) (x u v w:Int) (k:AOut→Option α):am real tab ((twT fsE spB).env real tab N (n+6)) N Tryz.f256 α [sN x u,sN v w,iN 2] k=kB x u v w 2 k:=by kernel_rfl
theorem Hh (N n:Nat) (α:Type) (x u v w:Int) (k:AOut→Option α):am real tab ((twT fsE spB).env real tab N (n+6)) N Tryz.f256 α [sN x u,sN v w,iN 3] k=kB x u v w 3 k:=by kernel_rfl
theorem z8:FspOk Tryz.prog 256 zZ:=ar jV gT ⟨Tryz.func256,fun _ _=>by kernel_rfl⟩ (by intro α args k; unfold zZ; split<;>simp only[ak,Option.bind_some,Option.bind_none]) fun args out hs h=>by
 unfold zZ at h
 split at h
 ·rename_i x u v w how
  cases hw:i9 how
  ·rw[hw] at h; cases h
  ·rw[hw,cond_true] at h
   rcases kv hw with rfl|rfl|rfl|rfl
   ·exact⟨8,6,(He 8 0 AOut x u v w some).trans ((pF ..).trans h)⟩
   ·exact⟨8,6,(Hf 8 0 AOut x u v w some).trans ((pF ..).trans h)⟩
   ·exact⟨8,6,(Hg 8 0 AOut x u v w some).trans ((pF ..).trans h)⟩
   ·exact⟨8,6,(Hh 8 0 AOut x u v w some).trans ((pF ..).trans h)⟩
 ·cases h
/-! Scale. -/
def slP (a n d how:Int):Int:=gC how (scG a n d) (ab a*ab n) (ab d)
def r8 (a n d:Int):Bool:=okB a&&(mD n&&mD d)
def slV (a n d how:Int):Int:=bif r8 a n d then (bif d==0 then 0 else fxV (scG a n d) (slP a n d how)) else 0
def slE (a n d how:Int):Int:=bif r8 a n d then (bif d==0 then 10 else fxE (slP a n d how)) else 2
def nP:Fsp:=fun _ args k=>match args with
 | [.int .i64 a,.int .i64 n,.int .i64 d,.int .i64 how]=>bif i9 how then k (i2 (slV a n d how) (slE a n d how)) else none
 |_=>none
def fZ {α:Type} (x u v how:Int) (k:AOut→Option α):Option α:=
 bif [x].all okB then
  bif decide (u≥-2147483648) then
   bif decide (u≤2147483648) then
    bif decide (v≥-2147483648) then
     bif !(decide (v≤2147483648)) then k (i2 0 2)
     else
      bif !(v != 0) then k (i2 0 10)
      else
       bif i6 x then
        bif i6 u then
         bif wB (ab x)&&wB (ab u) then
          bif i6 v then
           bif wB (hiW (ab x*ab u))&&wB (loW (ab x*ab u))&&wB (ab v)&&decide (0<ab v) then
            Cm (!(decide (x<0)==!(decide (u<0)==decide (v<0)))) (gC how (!(decide (x<0)==!(decide (u<0)==decide (v<0)))) (vw (hiW (ab x*ab u)) (loW (ab x*ab u))) (ab v)) k
           else none
          else none
         else none
        else none
       else none
    else k (i2 0 2)
   else k (i2 0 2)
  else k (i2 0 2)
 else k (i2 0 2)
theorem EB {n:Int} (h:mD n=true):okB n=true:=by rw[d9] at h; rw[d8]; omega
theorem kC {α:Type} (x u v how:Int) (k:AOut→Option α):fZ x u v how k=k (i2 (slV x u v how) (slE x u v how)):=by
 unfold fZ slV slE r8
 rw[RV]
 cases hx:okB x
 ·rfl
 ·have r1:mD u=(decide (u≥-2147483648)&&decide (u≤2147483648)):=rfl
  have r2:mD v=(decide (v≥-2147483648)&&decide (v≤2147483648)):=rfl
  cases hu:mD u
  ·rw[hu] at r1
   cases h1:decide (u≥-2147483648)
   ·rfl
   ·rw[h1,Bool.true_and] at r1
    rw[←r1]; rfl
  ·rw[hu] at r1
   have r1:=Bool.and_eq_true_iff.1 r1.symm
   rw[r1.1,r1.2]
   cases hv:mD v
   ·rw[hv] at r2
    cases h1:decide (v≥-2147483648)
    ·rfl
    ·rw[h1,Bool.true_and] at r2
     rw[←r2]; rfl
   ·rw[hv] at r2
    have r2:=Bool.and_eq_true_iff.1 r2.symm
    rw[r2.1,r2.2]
    by_cases hz:v=0
    ·subst hz; rfl
    ·have hu':=EB hu
     have hv':=EB hv
     have p:=b9 hx hu'
     have hav:0<ab v:=by unfold ab; split<;>omega
     have hb:(v != 0)=true:=by simp[hz]
     have hb2:(v==0)=false:=by simp[hz]
     simp only[hb,hb2,cK hx,cK hu',cK hv',ip (cK hx),ip (cK hu'),ip (cK hv'),jm,fI,iq (show 0≤ab x*ab u∧ab x*ab u<_ from ⟨p.1,by omega⟩),decide_eq_true hav,Bool.and_self,cond_true,cond_false,Bool.not_true]
     rw[EA]
     rfl
theorem Aa (N n:Nat) (α:Type) (x u v:Int) (k:AOut→Option α):am real tab ((twT fsE spB).env real tab N (n+6)) N Tryz.f128 α [iN x,iN u,iN v,iN 0] k=fZ x u v 0 k:=by kernel_rfl
theorem Ab (N n:Nat) (α:Type) (x u v:Int) (k:AOut→Option α):am real tab ((twT fsE spB).env real tab N (n+6)) N Tryz.f128 α [iN x,iN u,iN v,iN 1] k=fZ x u v 1 k:=by kernel_rfl
theorem Ad (N n:Nat) (α:Type) (x u v:Int) (k:AOut→Option α):am real tab ((twT fsE spB).env real tab N (n+6)) N Tryz.f128 α [iN x,iN u,iN v,iN 2] k=fZ x u v 2 k:=by kernel_rfl
theorem Ae (N n:Nat) (α:Type) (x u v:Int) (k:AOut→Option α):am real tab ((twT fsE spB).env real tab N (n+6)) N Tryz.f128 α [iN x,iN u,iN v,iN 3] k=fZ x u v 3 k:=by kernel_rfl
theorem nQ:FspOk Tryz.prog 128 nP:=ar jV gT ⟨Tryz.func128,fun _ _=>by kernel_rfl⟩ (by intro α args k; unfold nP; split<;>simp only[ak,Option.bind_some,Option.bind_none]) fun args out hs h=>by
 unfold nP at h
 split at h
 ·rename_i x u v how
  cases hw:i9 how
  ·rw[hw] at h; cases h
  ·rw[hw,cond_true] at h
   rcases kv hw with rfl|rfl|rfl|rfl
   ·exact⟨8,6,(Aa 8 0 AOut x u v some).trans ((kC ..).trans h)⟩
   ·exact⟨8,6,(Ab 8 0 AOut x u v some).trans ((kC ..).trans h)⟩
   ·exact⟨8,6,(Ad 8 0 AOut x u v some).trans ((kC ..).trans h)⟩
   ·exact⟨8,6,(Ae 8 0 AOut x u v some).trans ((kC ..).trans h)⟩
 ·cases h
noncomputable def fsF:FuncId→Option Fsp:=fun g=>
 if g=258 then some rX else
 if g=251 then some mK else
 if g=252 then some mL else
 if g=254 then some Lu else
 if g=257 then some r6 else
 if g=256 then some zZ else
 if g=128 then some nP else
 fsE g
theorem nR:aD fsF:=
 ae uC <|
 ae rY <|
 ae zU <|
 ae Ez <|
 ae uD <|
 ae z8 <|
 ae nQ <|
 jV
noncomputable def spC:FuncId→Option (Cv→Cv):=fun g=>
 if g=143 then some (nL 226) else
 spB g
theorem dv:jb spC:=
 ea (fun cv h caps=>rJ sT cv h caps) <|
 gT
end Go.Proofs.YtpgfncncgjihpaaGreat
