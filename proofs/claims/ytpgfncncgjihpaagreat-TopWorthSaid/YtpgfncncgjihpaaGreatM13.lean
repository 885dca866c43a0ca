/- Parts of the proof, in build order. -/
import Derived.Test.YtpgfncncgjihpaaGreatM12
import Derived.Test.YtpgfncncgjihpaaGreatM8
import Derived.Test.YtpgfncncgjihpaaGreatM11
import Derived.Test.YtpgfncncgjihpaaGreatM10
namespace Go.Proofs.YtpgfncncgjihpaaGreat
open Go.RowKit
def wcO (n:Int):Bool:=decide (0≤n)&&decide (n≤1000000)
def wcW (c:List Int):Bool:=decide (1≤c.length)&&(decide (c.length≤49)&&!(List.range c.length).any fun i=>!wcO (c.getD i 0))
def wcF {α:Type} (c:List Int) (k:AOut→Option α) (x:Int × Unit):Option (LRes (Int × Unit) α):=
 bif decide (x.1<(c.length:Int)) then
  if 0≤x.1∧x.1<(c.length:Int) then
   bif decide (0≤c.getD x.1.toNat 0) then bif !decide (c.getD x.1.toNat 0≤1000000) then finL (k (b1 !decide (x.1≥0))) else some (.cont (IntKind.i64.wrap (x.1+1),()))
   else finL (k (b1 !decide (x.1≥0)))
  else none
 else some (.brk 0 (x.1,()))
theorem NS (N n0:Nat) (α:Type) (c:List Int) (k:AOut→Option α):am real tab ((twY fsF spC).env real tab N (n0+12)) N Tryz.f28 α [.ro (.int .i64) c] k =
 bif decide (1≤(c.length:Int)) then bif decide ((c.length:Int)≤49) then ag (af N (wcF c k) (0,())) fun id _=>if id=0 then k (b1 !false) else none else k (b1
 false) else k (b1 false):=by kernel_rfl
theorem J2 {α:Type} (c:List Int) (k:AOut→Option α):(bif decide (1≤(c.length:Int)) then bif decide ((c.length:Int)≤49) then ag (af 60 (wcF c k) (0,())) fun id _=>if id=0 then k (b1 !false) else none else k (b1 false) else k (b1 false))=k (b1 (wcW c)):=by
 unfold wcW
 rw[show decide (1≤(c.length:Int))=decide (1≤c.length) from decide_eq_decide.2 (by omega),show decide ((c.length:Int)≤49)=decide (c.length≤49) from decide_eq_decide.2 (by omega)]
 cases decide (1≤c.length)
 ·rfl
 by_cases h:c.length≤49
 case neg=>rw[decide_eq_false h]; rfl
 rw[decide_eq_true h,cond_true,cond_true,Bool.true_and,Bool.true_and]
 have hmx:c.length≤maxLen:=by have:maxLen=9223372036854775807:=rfl; omega
 refine (eD (f:=wcF c k) (fun i:Nat=>((i:Int),())) c.length (fun i=>!wcO (c.getD i 0)) (k (b1 false)) (fun i hi=>?_) (y:=((c.length:Int),())) (b:=0) ?_ (by omega)).trans ?_
 ·unfold wcF wcO
  simp only[aR hi,cond_true,aH hi,if_pos,and_self,decide_true,Int.toNat_natCast,ao hi hmx]
  cases decide (0≤c.getD i 0)<;>cases decide (c.getD i 0≤1000000)<;>rfl
 ·unfold wcF
  simp only[ap,cond_false]
 ·rw[if_pos rfl]
  cases (List.range c.length).any fun i=>!wcO (c.getD i 0)<;>rfl
noncomputable def wcS:Fsp:=fun _ args k=>match args with
 | [.ro (.int .i64) c]=>k (b1 (wcW c))
 |_=>none
theorem Ra:FspOk Tryz.prog 28 wcS:=aq nR dv ⟨Tryz.func28,fun _ _=>by kernel_rfl⟩ (by intro α args k; unfold wcS; split<;>rfl) fun args out hSm hEq=>by
 unfold wcS at hEq
 split at hEq
 ·rename_i c
  exact⟨60,12,((NS 60 0 AOut c some).trans (J2 c some)).trans hEq⟩
 ·cases hEq
def wtF {α:Type} (c v:List Int) (x:Int × Int × Unit):Option (LRes (Int × Int × Unit) α):=
 bif decide (x.2.1<(c.length:Int)) then
  if 0≤x.2.1∧x.2.1<(c.length:Int) then if 0≤x.2.1∧x.2.1<(v.length:Int) then some (.cont (IntKind.i64.wrap (x.1+IntKind.i64.wrap (c.getD x.2.1.toNat 0*v.getD x.2.1.toNat 0)),IntKind.i64.wrap (x.2.1+1),())) else none else none
 else some (.brk 0 (x.1,x.2.1,()))
def wsF {α:Type} (c:List Int) (x:Int × Int × Unit):Option (LRes (Int × Int × Unit) α):=
 bif decide (x.2.1<(c.length:Int)) then
  if 0≤x.2.1∧x.2.1<(c.length:Int) then some (.cont (IntKind.i64.wrap (x.1+c.getD x.2.1.toNat 0),IntKind.i64.wrap (x.2.1+1),())) else none
 else some (.brk 0 (x.1,x.2.1,()))
def wmT {α:Type} (N:Nat) (op:Int→Int→Int) (how:Int) (c v:List Int) (d:Int) (P:Option α) (k:AOut→Option α):Option α:=
 bif decide ((v.length:Int)<1) then P else
 if 0≤(0:Int)∧(0:Int)<(v.length:Int) then
  ag (af N (kmF op v) (v.getD (Int.toNat 0) 0,1,())) fun id x=>if id=0 then
   ag (af N (wtF c v) (IntKind.i64.wrap (d*x.1),0,())) fun id y=>if id=0 then
    ag (af N (wsF c) (0,0,())) fun id z=>if id=0 then
     if IntKind.i64.wrap (z.1+d)=0 then none else if IntKind.i64.wrap (z.1+d)=0 then none else
     k (.ret (.int .i64 (IntKind.i64.wrap (IntKind.i64.wrap (y.1.tdiv (IntKind.i64.wrap (z.1+d)))+slV (y.1.tmod (IntKind.i64.wrap (z.1+d))) 1 (IntKind.i64.wrap (z.1+d)) how))))
    else none
   else none
  else none
 else none
set_option maxRecDepth 100000 in
theorem Ge (N n0:Nat) (α:Type) (c v:List Int) (d:Int) (k:AOut→Option α):am real tab ((twY fsF spC).env real tab N (n0+12)) N Tryz.f33 α [.ro (.int .i64) c,.ro (.int .i64) v,.int .i64 d,.fn 34 [],.int .i64 1] k=wmT N kmN 1 c v d (k (.pan (.ifc 9 (.str ⟨#[115,108,105,99,101,115,46,77,105,110,58,32,101,109,112,116,121,32,108,105,115,116]⟩)))) k:=by kernel_rfl
set_option maxRecDepth 100000 in
theorem Gf (N n0:Nat) (α:Type) (c v:List Int) (d:Int) (k:AOut→Option α):am real tab ((twY fsF spC).env real tab N (n0+12)) N Tryz.f33 α [.ro (.int .i64) c,.ro (.int .i64) v,.int .i64 d,.fn 35 [],.int .i64 2] k=wmT N kmX 2 c v d (k (.pan (.ifc 9 (.str ⟨#[115,108,105,99,101,115,46,77,97,120,58,32,101,109,112,116,121,32,108,105,115,116]⟩)))) k:=by kernel_rfl
def wtV (c v:List Int) (x:Int):Nat→Int
 |0=>x
 |i+1=>IntKind.i64.wrap (wtV c v x i+IntKind.i64.wrap (c.getD i 0*v.getD i 0))
def wsW (c:List Int):Nat→Int
 |0=>0
 |i+1=>IntKind.i64.wrap (wsW c i+c.getD i 0)
def wmN (c:List Int) (d:Int):Int:=IntKind.i64.wrap (wsW c c.length+d)
def wmO (op:Int→Int→Int) (c v:List Int) (d:Int):Int:=wtV c v (IntKind.i64.wrap (d*kfN op v (v.length-1))) c.length
def wmW (op:Int→Int→Int) (how:Int) (c v:List Int) (d:Int):Int:=IntKind.i64.wrap (IntKind.i64.wrap ((wmO op c v d).tdiv (wmN c d))+slV ((wmO op c v d).tmod (wmN c d)) 1 (wmN c d) how)
def wmB (c v:List Int) (d:Int):Bool:=decide (1≤v.length)&&(decide (c.length≤v.length)&&!(wmN c d==0))
theorem J3 {α:Type} (op:Int→Int→Int) (how:Int) (c v:List Int) (d:Int) (hB:wmB c v d=true) (hv:v.length≤maxLen) (P:Option α) (k:AOut→Option α):wmT (v.length+1) op how c v d P k=k (.ret (.int .i64 (wmW op how c v d))):=by
 unfold wmB at hB
 simp only[Bool.and_eq_true,decide_eq_true_eq,Bool.not_eq_true',beq_eq_false_iff_ne] at hB
 obtain⟨h1,h2,h3⟩:=hB
 unfold wmT
 rw[decide_eq_false (show ¬(v.length:Int)<1 by omega),cond_false,if_pos ⟨by omega,by omega⟩]
 refine (aB (f:=kmF op v) (fun i=>(kfN op v i,((i+1:Nat):Int),())) (v.length-1) (fun i hi=>?_) (y:=(kfN op v (v.length-1),(v.length:Int),())) (b:=0) ?_ (by omega)).trans ?_
 ·unfold kmF
  have hi':i+1<v.length:=by omega
  simp only[aR hi',cond_true,aH hi',if_pos,and_self,decide_true,Int.toNat_natCast,ao hi' hv,kfN]
 ·have e:v.length-1+1=v.length:=by omega
  rw[e]
  unfold kmF
  simp only[ap,cond_false]
 rw[if_pos rfl]
 refine (aB (f:=wtF c v) (fun i=>(wtV c v (IntKind.i64.wrap (d*kfN op v (v.length-1))) i,(i:Int),())) c.length (fun i hi=>?_) (y:=(wmO op c v d,(c.length:Int),())) (b:=0) ?_ (by omega)).trans ?_
 ·unfold wtF
  simp only[aR hi,cond_true,aH hi,aH (show i<v.length by omega),if_pos,and_self,decide_true,Int.toNat_natCast,ao hi (by omega),wtV]
 ·unfold wtF
  simp only[ap,cond_false]
  rfl
 rw[if_pos rfl]
 refine (aB (f:=wsF c) (fun i=>(wsW c i,(i:Int),())) c.length (fun i hi=>?_) (y:=(wsW c c.length,(c.length:Int),())) (b:=0) ?_ (by omega)).trans ?_
 ·unfold wsF
  simp only[aR hi,cond_true,aH hi,if_pos,and_self,decide_true,Int.toNat_natCast,ao hi (by omega),wsW]
 ·unfold wsF
  simp only[ap,cond_false]
 rw[if_pos rfl]
 show (if wmN c d=0 then none else if wmN c d=0 then none else _)=_
 rw[if_neg h3,if_neg h3]
 rfl
noncomputable def NT:Fsp:=fun _ args k=>match args with
 | [.ro (.int .i64) c,.ro (.int .i64) v,.int .i64 d,.fn g [],.int .i64 how]=>
   bif g==34&&how==1 then (bif wmB c v d then k (.ret (.int .i64 (wmW kmN 1 c v d))) else none) else
   bif g==35&&how==2 then (bif wmB c v d then k (.ret (.int .i64 (wmW kmX 2 c v d))) else none) else none
 |_=>none
theorem NU:FspOk Tryz.prog 33 NT:=aq nR dv ⟨Tryz.func33,fun _ _=>by kernel_rfl⟩ (by intro α args k; unfold NT; split<;>simp only[ak,Option.bind_some,Option.bind_none]) fun args out hSm hEq=>by
 unfold NT at hEq
 split at hEq
 ·rename_i c v d g how
  have hv:List.length (α:=Int) v≤maxLen:=(hSm _ (.tail _ (.head _))).len
  cases h1:g==34&&how==1
  ·rw[h1,cond_false] at hEq
   cases h2:g==35&&how==2
   ·rw[h2] at hEq; cases hEq
   ·rw[h2,cond_true] at hEq
    rw[Bool.and_eq_true,beq_iff_eq,beq_iff_eq] at h2
    obtain⟨rfl,rfl⟩:=h2
    cases hB:wmB c v d
    ·rw[hB] at hEq; cases hEq
    ·rw[hB] at hEq
     exact⟨List.length (α:=Int) v+1,12,((Gf _ 0 AOut c v d some).trans (J3 kmX 2 c v d hB hv _ some)).trans hEq⟩
  ·rw[h1,cond_true] at hEq
   rw[Bool.and_eq_true,beq_iff_eq,beq_iff_eq] at h1
   obtain⟨rfl,rfl⟩:=h1
   cases hB:wmB c v d
   ·rw[hB] at hEq; cases hEq
   ·rw[hB] at hEq
    exact⟨List.length (α:=Int) v+1,12,((Ge _ 0 AOut c v d some).trans (J3 kmN 1 c v d hB hv _ some)).trans hEq⟩
 ·cases hEq
noncomputable def Td:FuncId→Option Fsp:=fun g=>
 if g=28 then some wcS else
 if g=33 then some NT else
 if g=9 then some yq else
 J1 g
theorem NV:aD Td:=
 ae Ra <|
 ae NU <|
 ae yr <|
 yp
/-! Worth. -/
def woK {α:Type} (c a z:List Int) (d:Int) (k:AOut→Option α):Option α:=
 bif wmB c a d then bif wmB c z d then k (.ret (.tup [.int .i64 (wmW kmN 1 c a d),.int .i64 (wmW kmX 2 c z d),.int .i64 0])) else none else none
def woF {α:Type} (e lo hi:Int→Int) (c:List Int) (d:Int) (k:AOut→Option α) (x:Int × List Int × List Int × Unit):Option (LRes (Int × List Int × List Int × Unit) α):=
 bif decide (x.1<49) then
  bif e x.1==0 then
   if (x.2.1.length+[IntKind.i64.wrap (lo x.1*65536)].length)*8≤room then
    if (x.2.2.1.length+[IntKind.i64.wrap (hi x.1*65536)].length)*8≤room then
     some (.cont (IntKind.i64.wrap (x.1+1),x.2.1++[IntKind.i64.wrap (lo x.1*65536)],x.2.2.1++[IntKind.i64.wrap (hi x.1*65536)],()))
    else none
   else none
  else finL (bif e x.1 != 0 then k (.ret (.tup [.int .i64 0,.int .i64 0,.int .i64 (e x.1)])) else woK c x.2.1 x.2.2.1 d k)
 else some (.brk 0 (x.1,x.2.1,x.2.2.1,()))
def woT {α:Type} (N:Nat) (g:Bool) (e lo hi:Int→Int) (c:List Int) (d tm:Int) (k:AOut→Option α):Option α:=
 bif !g then k (.ret (.tup [.int .i64 0,.int .i64 0,.int .i64 2])) else
 bif !wcW c then k (.ret (.tup [.int .i64 0,.int .i64 0,.int .i64 2])) else
 bif (c.length:Int) != 49 then k (.ret (.tup [.int .i64 0,.int .i64 0,.int .i64 2])) else
 bif decide (1≤d) then bif !decide (d≤1000) then k (.ret (.tup [.int .i64 0,.int .i64 0,.int .i64 2])) else
  bif decide (0≤tm) then bif !decide (tm≤1) then k (.ret (.tup [.int .i64 0,.int .i64 0,.int .i64 2])) else
   ag (af N (woF e lo hi c d k) (0,[],[],())) fun id y=>if id=0 then woK c y.2.1 y.2.2.1 d k else none
  else k (.ret (.tup [.int .i64 0,.int .i64 0,.int .i64 2]))
 else k (.ret (.tup [.int .i64 0,.int .i64 0,.int .i64 2]))
set_option maxRecDepth 100000 in
theorem Gg (N n0:Nat) (α:Type) (cx cy sd w h:Int) (pb po:List Int) (fl ke sw be we:Int) (el:Int) (l:List BdI) (t n x y u v s:Int) (b:List BrI) (p q:Int) (c:List Int) (d tm:Int) (k:AOut→Option α):am real tab ((twY Td FL).env real tab N (n0+14)) N Tryz.f8 α [.agg [.int .i64 cx,.int .i64 cy,.int .i64 sd,.int .i64 w,.int .i64 h,.ro (.int .i64) pb,.ro (.int .i64) po],.agg [.int .i64 fl,.int .i64 ke,.int .i64 sw,.int .i64 be,.int .i64 we],.ro (.recd (.cons (.int .i64) (.cons (.int .i64) (.cons (.recd (.cons (.recd (.cons (.int .i64) (.cons (.int .i64) .nil))) (.cons (.recd (.cons (.int .i64) (.cons (.int .i64) .nil))) (.cons (.int .i64) .nil)))) (.cons .bool .nil))))) l,.agg [.int .i64 t,.int .i64 n,.int .i64 x,.int .i64 y,.int .i64 u,.int .i64 v,.int .i64 s,.ro (.recd (.cons (.int .i64) (.cons (.int .i64) (.cons (.int .i64) .nil)))) b,.int .i64 p,.int .i64 q],.int .i64 el,.ro (.int .i64) c,.int .i64 d,.int .i64 tm] k =
 woT N (nl cx cy sd w h pb po fl ke sw be we el l (ccB t n x y u v s b p q)) (fun m=>enE cx cy sd w h pb po fl ke sw be we el l t n x y u v s b p q m) (fun m=>kfL kmN (kpV tm
 (enR cx cy sd w h pb po fl ke sw be we el l t n x y u v s b p q m))) (fun m=>kfL kmX (kpV tm (enR cx cy sd w h pb po fl ke sw be we el l t n x y u v s b p q m))) c d tm k:=by
 kernel_rfl
def woL (f:Int→Int) (i:Nat):List Int:=(List.range i).map fun m:Nat=>IntKind.i64.wrap (f (m:Int)*65536)
def woE (e:Int→Int):Int:=match (List.range 49).find? fun i:Nat=>!(e (i:Int)==0) with
 |none=>0
 |some i=>e (i:Int)
def woV (g:Bool) (c:List Int) (d tm:Int):Bool:=g&&(wcW c&&(((c.length:Int)==49)&&((decide (1≤d)&&decide (d≤1000))&&(decide (0≤tm)&&decide (tm≤1)))))
def woJ (g:Bool) (e:Int→Int) (c:List Int) (d tm:Int):Int:=bif woV g c d tm then woE e else 2
def woA (g:Bool) (e lo:Int→Int) (c:List Int) (d tm:Int):Int:=bif woJ g e c d tm==0 then wmW kmN 1 c (woL lo 49) d else 0
def woZ (g:Bool) (e hi:Int→Int) (c:List Int) (d tm:Int):Int:=bif woJ g e c d tm==0 then wmW kmX 2 c (woL hi 49) d else 0
theorem DZ {c:List Int} (h:wcW c=true) (i:Nat):0≤c.getD i 0∧c.getD i 0≤1000000:=by
 unfold wcW at h
 simp only[Bool.and_eq_true,Bool.not_eq_true',List.any_eq_false] at h
 rcases Nat.lt_or_ge i c.length with hi|hi
 ·have:=h.2.2 i (List.mem_range.2 hi)
  unfold wcO at this
  simpa using this
 ·rw[List.getD_eq_getElem?_getD,List.getElem?_eq_none hi]; decide
theorem D0 {c:List Int} (h:wcW c=true):∀i,i≤60→0≤wsW c i∧wsW c i≤1000000*i
 |0,_=>⟨Int.le_refl _,by show (0:Int)≤_; omega⟩
 |i+1,hi=>by
  have ih:=D0 h i (by omega)
  have:=DZ h i
  rw[wsW,aP _ (by omega)]
  omega
theorem PU {c v:List Int} (h:wcW c=true) (hc:c.length=49) (hv:v.length=49) {d:Int} (hd:1≤d∧d≤1000):wmB c v d=true:=by
 unfold wmB wmN
 have:=D0 h 49 (by omega)
 rw[hc,hv,aP _ (by omega),show (wsW c 49+d==0)=false from by rw[beq_eq_false_iff_ne]; omega]
 rfl
theorem Rb {α:Type} {e lo hi:Int→Int} {c:List Int} (h:wcW c=true) (hc:c.length=49) {d:Int} (hd:1≤d∧d≤1000) (k:AOut→Option α):(ag (af 50 (woF e lo hi c d k) (0,[],[],())) fun id y=>if id=0 then woK c y.2.1 y.2.2.1 d k else none)=k (.ret (.tup [.int .i64 (bif woE e==0 then wmW kmN 1 c (woL lo 49) d else 0),.int .i64 (bif woE e==0 then wmW kmX 2 c (woL hi 49) d else 0),.int .i64 (woE e)])):=by
 have hroom:room≥10000:=by decide
 have len:∀(f:Int→Int) i,(woL f i).length=i:=fun f i=>by unfold woL; rw[List.length_map,List.length_range]
 have suc:∀(f:Int→Int) i,woL f (i+1)=woL f i++[IntKind.i64.wrap (f (i:Int)*65536)]:=fun f i=>by unfold woL; rw[List.range_succ,List.map_append]; rfl
 have key:=Hv (f:=woF e lo hi c d k) (K:=fun id y=>if id=0 then woK c y.2.1 y.2.2.1 d k else none) (fun i:Nat=>((i:Int),woL lo i,woL hi i,())) 49 (fun i:Nat=>!(e (i:Int)==0)) (b:=0) (y:=(((49:Nat):Int),woL lo 49,woL hi 49,())) (fun i:Nat=>k (.ret (.tup [.int .i64 0,.int .i64 0,.int .i64 (e (i:Int))]))) (fun i hi'=>?_) ?_
 ·refine key.trans ?_
  unfold woE
  cases hf:(List.range 49).find? fun i:Nat=>!(e (i:Int)==0) with
  |none=>
   show woK c (woL lo 49) (woL hi 49) d k=_
   unfold woK
   rw[PU h hc (len lo 49) hd,PU h hc (len hi 49) hd]; rfl
  |some i=>
   have hn:=List.find?_some hf
   simp only[Bool.not_eq_true'] at hn
   show k _=k _
   simp only[hn,cond_false]
 ·unfold woF
  simp only[decide_eq_true (show (i:Int)<49 by omega),cond_true,len,List.length_singleton,suc]
  rw[if_pos (by omega),if_pos (by omega),ao hi' (by decide)]
  cases he:e (i:Int)==0
  ·rw[cond_false,Bool.not_false,cond_true,bne,he]; rfl
  ·rfl
 ·unfold woF
  rfl
noncomputable def D1:Fsp:=fun _ args k=>match args with
 | [.agg [.int .i64 cx,.int .i64 cy,.int .i64 sd,.int .i64 w,.int .i64 h,.ro (.int .i64) pb,.ro (.int .i64) po],.agg [.int .i64 fl,.int .i64 ke,.int .i64 sw,.int .i64 be,.int .i64 we],.ro (.recd (.cons (.int .i64) (.cons (.int .i64) (.cons (.recd (.cons (.recd (.cons (.int .i64) (.cons (.int .i64) .nil))) (.cons (.recd (.cons (.int .i64) (.cons (.int .i64) .nil))) (.cons (.int .i64) .nil)))) (.cons .bool .nil))))) l,.agg [.int .i64 t,.int .i64 n,.int .i64 x,.int .i64 y,.int .i64 u,.int .i64 v,.int .i64 s,.ro (.recd (.cons (.int .i64) (.cons (.int .i64) (.cons (.int .i64) .nil)))) b,.int .i64 p,.int .i64 q],.int .i64 el,.ro (.int .i64) c,.int .i64 d,.int .i64 tm]=>k (.ret (.tup [.int .i64 (woA (nl cx cy sd w h pb po fl ke sw be we el l (ccB t n x y u v s b p q)) (fun m=>enE cx cy sd w h pb po fl ke sw be we el l t n x y u v s b p q m) (fun m=>kfL kmN (kpV tm (enR cx cy sd w h pb po fl ke sw be we el l t n x y u v s b p q m))) c d tm),.int .i64 (woZ (nl cx cy sd w h pb po fl ke sw be we el l (ccB t n x y u v s b p q)) (fun m=>enE cx cy sd w h pb po fl ke sw be we el l t n x y u v s b p q m) (fun m=>kfL kmX (kpV tm (enR cx cy sd w h pb po fl ke sw be we el l t n x y u v s b p q m))) c d tm),.int .i64 (woJ (nl cx cy sd w h pb po fl ke sw be we el l (ccB t n x y u v s b p q)) (fun m=>enE cx cy sd w h pb po fl ke sw be we el l t n x y u v s b p q m) c d tm)]))
 |_=>none
theorem Rc {α:Type} (g:Bool) (e lo hi:Int→Int) (c:List Int) (d tm:Int) (k:AOut→Option α):woT 50 g e lo hi c d tm k=k (.ret (.tup [.int .i64 (woA g e lo c d tm),.int .i64 (woZ g e hi c d tm),.int .i64 (woJ g e c d tm)])):=by
 unfold woT woA woZ woJ woV
 cases g
 ·rfl
 cases hw:wcW c
 ·rfl
 cases hl:(c.length:Int)==49
 ·rw[bne,hl]; rfl
 cases h1:decide (1≤d)
 ·rw[bne,hl]; rfl
 cases h2:decide (d≤1000)
 ·rw[bne,hl]; rfl
 cases h3:decide (0≤tm)
 ·rw[bne,hl]; rfl
 cases h4:decide (tm≤1)
 ·rw[bne,hl]; rfl
 rw[bne,hl]
 have hc:(c.length:Int)=49:=eq_of_beq hl
 exact Rb hw (by omega) ⟨of_decide_eq_true h1,of_decide_eq_true h2⟩ k
theorem J4:FspOk Tryz.prog 8 D1:=aq NV lT ⟨Tryz.func8,fun _ _=>by kernel_rfl⟩ (by intro α args k; unfold D1; split<;>rfl) fun args out hSm hEq=>by
 unfold D1 at hEq
 split at hEq
 ·rename_i cx cy sd w h pb po fl ke sw be we l t n x y u v s b p q el c d tm
  exact⟨50,14,((Gg 50 0 AOut cx cy sd w h pb po fl ke sw be we el l t n x y u v s b p q c d tm some).trans (Rc _ _ _ _ c d tm some)).trans hEq⟩
 ·cases hEq
/-! Sums. -/
def wsS (f:Nat→Int):Nat→Int
 |0=>0
 |i+1=>wsS f i+f i
theorem vB {f g:Nat→Int}:∀n,(∀i,i<n→f i≤g i)→wsS f n≤wsS g n
 |0,_=>Int.le_refl _
 |n+1,h=>by
  have h1:=vB n fun i hi=>h i (by omega)
  have h2:=h n (by omega)
  rw[wsS,wsS]; omega
theorem vC (f:Nat→Int) (L:Int):∀n,wsS (fun i=>f i*L) n=wsS f n*L
 |0=>(Int.zero_mul L).symm
 |n+1=>by rw[wsS,wsS,vC f L n,Int.add_mul]
theorem wmulb {a b A B:Int} (ha:0≤a∧a≤A) (hb:-B≤b∧b≤B) (hB:0≤B):-(A*B)≤a*b∧a*b≤A*B:=by
 have h1:=Int.mul_le_mul_of_nonneg_left hb.2 ha.1
 have h2:=Int.mul_le_mul_of_nonneg_left hb.1 ha.1
 have h3:=Int.mul_le_mul_of_nonneg_right ha.2 hB
 rw[Int.mul_neg] at h2
 omega
structure WoC (c:List Int):Prop where
 len:c.length=49
 ok:wcW c=true
structure WoI (v:List Int):Prop where
 len:v.length=49
 bd:∀i,-1048576≤v.getD i 0∧v.getD i 0≤1048576
def wcv (c v:List Int) (i:Nat):Int:=c.getD i 0*v.getD i 0
theorem Rd {c v:List Int} (hc:WoC c) (hv:WoI v) (i:Nat):-1048576000000≤wcv c v i∧wcv c v i≤1048576000000:=by
 have:=wmulb (DZ hc.ok i) (hv.bd i) (by omega)
 unfold wcv; omega
theorem vD {c v:List Int} (hc:WoC c) (hv:WoI v) {x:Int} (hx:-2000000000≤x∧x≤2000000000):∀n,n≤60→wtV c v x n=x+wsS (wcv c v) n∧-(1048576000000*(n:Int))≤wsS (wcv c v) n∧wsS (wcv c v) n≤1048576000000*(n:Int)
 |0,_=>⟨(Int.add_zero x).symm,by show -(1048576000000*(0:Int))≤0; omega,by show (0:Int)≤_; omega⟩
 |n+1,hn=>by
  obtain⟨h1,h2,h3⟩:=vD hc hv hx n (by omega)
  have h4:=Rd hc hv n
  rw[wtV,wsS,h1]
  have e:IntKind.i64.wrap (c.getD n 0*v.getD n 0)=wcv c v n:=aP _ (by unfold wcv at h4; omega)
  rw[e,aP _ (by omega)]
  omega
theorem vE {c:List Int} (hc:WoC c):∀n,n≤60→wsW c n=wsS (fun i=>c.getD i 0) n
 |0,_=>rfl
 |n+1,hn=>by
  have h1:=D0 hc.ok n (by omega)
  have h2:=DZ hc.ok n
  rw[wsW,wsS,←vE hc n (by omega),aP _ (by omega)]
/-! The least and the most. -/
theorem qu (V:List Int):∀n i,i≤n→kfN kmN V n≤V.getD i 0∧V.getD i 0≤kfN kmX V n
 |0,i,h=>by
  have:i=0:=by omega
  subst this
  exact⟨Int.le_refl _,Int.le_refl _⟩
 |n+1,i,h=>by
  simp only[kfN]
  have a:kmN (kfN kmN V n) (V.getD (n+1) 0)≤kfN kmN V n∧kmN (kfN kmN V n) (V.getD (n+1) 0)≤V.getD (n+1) 0:=by unfold kmN; split<;>omega
  have b:kfN kmX V n≤kmX (kfN kmX V n) (V.getD (n+1) 0)∧V.getD (n+1) 0≤kmX (kfN kmX V n) (V.getD (n+1) 0):=by unfold kmX; split<;>omega
  rcases Nat.lt_or_ge i (n+1) with hi|hi
  ·have:=qu V n i (by omega); omega
  ·have:i=n+1:=by omega
   subst this; omega
theorem vF (V:List Int):∀n,(∃i,i≤n∧kfN kmN V n=V.getD i 0)∧∃i,i≤n∧kfN kmX V n=V.getD i 0
 |0=>⟨⟨0,Nat.le_refl _,rfl⟩,0,Nat.le_refl _,rfl⟩
 |n+1=>by
  obtain⟨⟨i,hi,e1⟩,j,hj,e2⟩:=vF V n
  simp only[kfN]
  constructor
  ·unfold kmN
   split
   ·exact⟨n+1,Nat.le_refl _,rfl⟩
   ·exact⟨i,by omega,e1⟩
  ·unfold kmX
   split
   ·exact⟨n+1,Nat.le_refl _,rfl⟩
   ·exact⟨j,by omega,e2⟩
/-! The mean. -/
theorem J5 (neg:Bool) (n d:Int):rnd 2 neg n d=rnd 1 (!neg) n d:=by
 unfold rnd up1
 simp
theorem NW {s d:Int} (hd:0<d):sg (ngB s) (rnd 2 (ngB s) (ab s) d)=-((-s) / d):=by
 by_cases h0:s=0
 ·subst h0
  unfold rnd up1 sg ngB ab
  simp
 ·rw[J5,←sa hd]
  have e1:ngB (-s)=!ngB s:=by
   unfold ngB
   by_cases h:s<0
   ·rw[decide_eq_true h,decide_eq_false (by omega)]; rfl
   ·rw[decide_eq_false h,decide_eq_true (by omega)]; rfl
  have e2:ab (-s)=ab s:=by unfold ab; split<;>split<;>omega
  rw[e1,e2]
  unfold sg
  cases ngB s<;>simp
theorem NX {s d:Int} (hd:0<d) (how:Int) (neg:Bool) (h:ab s<d):0≤rnd how neg (ab s) d∧rnd how neg (ab s) d≤1:=by
 have h0:=cB s
 unfold rnd
 rw[Int.ediv_eq_zero_of_lt h0 h]
 cases up1 how neg (ab s % d) d<;>simp
theorem D2 {s d how:Int} (hd:0<d∧d≤2000000000) (h:ab s<d):slV s 1 d how=sg (ngB s) (rnd how (ngB s) (ab s) d):=by
 have h0:=cB s
 have h1:=NX hd.1 how (ngB s) h
 have hab:-2000000000≤s∧s≤2000000000:=by unfold ab at h; split at h<;>omega
 have hg:scG s 1 d=ngB s:=by
  unfold scG
  rw[jW (show (0:Int)≤1 by omega),jW (show 0≤d by omega)]
  unfold xorB
  cases ngB s<;>rfl
 have hP:slP s 1 d how=rnd how (ngB s) (ab s) d:=by
  unfold slP
  rw[hg,nS (show (0:Int)≤1 by omega),nS (show 0≤d by omega),Int.mul_one]
  exact dK h0 hd.1 (by rw[Int.ediv_eq_zero_of_lt h0 h]; omega)
 have hok:r8 s 1 d=true:=by
  unfold r8
  rw[d8.2 (by omega),d9.2 (by omega),d9.2 (by omega)]; rfl
 have hd0:(d==0)=false:=by simp; omega
 have hf:fxB (rnd how (ngB s) (ab s) d)=true:=by simp only[fxB,decide_eq_true_eq]; omega
 unfold slV
 rw[hok,hd0,hP,hg]
 unfold fxV
 rw[hf]
 rfl
theorem PV {X n:Int} (hn:0<n∧n≤2000000000) (hX:-4000000000000000000≤X∧X≤4000000000000000000):IntKind.i64.wrap (IntKind.i64.wrap (X.tdiv n)+slV (X.tmod n) 1 n 1)=X / n∧IntKind.i64.wrap (IntKind.i64.wrap (X.tdiv n)+slV (X.tmod n) 1 n 2)=-((-X) / n):=by
 have hr:-n<X.tmod n∧X.tmod n<n:=by
  rcases Int.le_total 0 X with h|h
  ·rw[Int.tmod_eq_emod_of_nonneg h]
   have:=Int.emod_nonneg X (show n≠0 by omega)
   have:=Int.emod_lt_of_pos X hn.1
   omega
  ·have e:X.tmod n=-((-X) % n):=by
    rw[←Int.tmod_eq_emod_of_nonneg (show 0≤-X by omega),Int.neg_tmod,Int.neg_neg]
   have:=Int.emod_nonneg (-X) (show n≠0 by omega)
   have:=Int.emod_lt_of_pos (-X) hn.1
   omega
 have ha:ab (X.tmod n)<n:=by unfold ab; split<;>omega
 have hX':X=X.tmod n+X.tdiv n*n:=by
  have:=Int.mul_tdiv_add_tmod X n
  rw[Int.mul_comm] at this; omega
 have hq:-4000000000000000000≤X.tdiv n∧X.tdiv n≤4000000000000000000:=by
  rcases Int.le_total 0 X with h|h
  ·rw[Int.tdiv_eq_ediv_of_nonneg h]
   have:=Int.ediv_nonneg h (show 0≤n by omega)
   have:=Int.ediv_le_self n h
   omega
  ·have e:X.tdiv n=-((-X) / n):=by
    rw[←Int.tdiv_eq_ediv_of_nonneg (show 0≤-X by omega),Int.neg_tdiv,Int.neg_neg]
   have:=Int.ediv_nonneg (show 0≤-X by omega) (show 0≤n by omega)
   have:=Int.ediv_le_self n (show 0≤-X by omega)
   omega
 have s1:X / n=X.tdiv n+X.tmod n / n:=by
  conv=>lhs; rw[hX',Int.add_mul_ediv_right _ _ (show n≠0 by omega)]
  omega
 have s2:(-X) / n=-X.tdiv n+(-X.tmod n) / n:=by
  have e:-X=-X.tmod n+-X.tdiv n*n:=by rw[Int.neg_mul]; omega
  conv=>lhs; rw[e,Int.add_mul_ediv_right _ _ (show n≠0 by omega)]
  omega
 have b1:-1≤X.tmod n / n∧X.tmod n / n≤0:=by
  have h1:=Int.ediv_le_ediv (a:=X.tmod n) (b:=n-1) hn.1 (by omega)
  have h2:=Int.ediv_le_ediv (a:=-n) (b:=X.tmod n) hn.1 (by omega)
  rw[Int.ediv_eq_zero_of_lt (show (0:Int)≤n-1 by omega) (show n-1<n by omega)] at h1
  rw[Int.neg_ediv_self n (show n≠0 by omega)] at h2
  omega
 have b2:-1≤(-X.tmod n) / n∧(-X.tmod n) / n≤0:=by
  have h1:=Int.ediv_le_ediv (a:=-X.tmod n) (b:=n-1) hn.1 (by omega)
  have h2:=Int.ediv_le_ediv (a:=-n) (b:=-X.tmod n) hn.1 (by omega)
  rw[Int.ediv_eq_zero_of_lt (show (0:Int)≤n-1 by omega) (show n-1<n by omega)] at h1
  rw[Int.neg_ediv_self n (show n≠0 by omega)] at h2
  omega
 rw[D2 hn ha,D2 hn ha,sa hn.1,NW hn.1,aP (X.tdiv n) (by omega),aP _ (by omega),aP _ (by omega),s1,s2]
 omega
theorem Gi {c v w:List Int} (hc:WoC c) (hv:WoI v) (hw:WoI w) {k:Int} (hk:1≤k∧k≤1000) {L M:Int} (h:∀i,i<49→L≤v.getD i 0∧v.getD i 0≤w.getD i 0∧w.getD i 0≤M):L≤wmW kmN 1 c v k∧wmW kmN 1 c v k≤wmW kmX 2 c w k∧wmW kmX 2 c w k≤M:=by
 have hn1:=D0 hc.ok 49 (by omega)
 have eN:wmN c k=wsS (fun i=>c.getD i 0) 49+k:=by
  unfold wmN
  rw[hc.len,aP _ (by omega),vE hc 49 (by omega)]
 rw[vE hc 49 (by omega)] at hn1
 obtain⟨⟨i,hi,e1⟩,_⟩:=vF v 48
 obtain⟨_,j,hj,e2⟩:=vF w 48
 have bi:=hv.bd i
 have bj:=hw.bd j
 have hx1:=wmulb (a:=k) (b:=kfN kmN v 48) (A:=1000) (B:=1048576) (by omega) (by rw[e1]; exact bi) (by omega)
 have hx2:=wmulb (a:=k) (b:=kfN kmX w 48) (A:=1000) (B:=1048576) (by omega) (by rw[e2]; exact bj) (by omega)
 have t1:=vD hc hv (x:=k*kfN kmN v 48) (by omega) 49 (by omega)
 have t2:=vD hc hw (x:=k*kfN kmX w 48) (by omega) 49 (by omega)
 have eO1:wmO kmN c v k=k*kfN kmN v 48+wsS (wcv c v) 49:=by
  unfold wmO
  rw[hv.len,hc.len,show (49:Nat)-1=48 from rfl,aP (k*kfN kmN v 48) (by omega),t1.1]
 have eO2:wmO kmX c w k=k*kfN kmX w 48+wsS (wcv c w) 49:=by
  unfold wmO
  rw[hw.len,hc.len,show (49:Nat)-1=48 from rfl,aP (k*kfN kmX w 48) (by omega),t2.1]
 have c0:∀i,0≤c.getD i 0:=fun i=>(DZ hc.ok i).1
 have g1:wsS (fun i=>c.getD i 0) 49*L≤wsS (wcv c v) 49:=by
  rw[←vC]
  exact vB 49 fun i hi=>Int.mul_le_mul_of_nonneg_left (h i hi).1 (c0 i)
 have g2:wsS (wcv c v) 49≤wsS (wcv c w) 49:=vB 49 fun i hi=>Int.mul_le_mul_of_nonneg_left (h i hi).2.1 (c0 i)
 have g3:wsS (wcv c w) 49≤wsS (fun i=>c.getD i 0) 49*M:=by
  rw[←vC]
  exact vB 49 fun i hi=>Int.mul_le_mul_of_nonneg_left (h i hi).2.2 (c0 i)
 have k1:k*L≤k*kfN kmN v 48:=Int.mul_le_mul_of_nonneg_left (by rw[e1]; exact (h i (by omega)).1) (by omega)
 have k2:k*kfN kmN v 48≤k*kfN kmX w 48:=by
  refine Int.mul_le_mul_of_nonneg_left ?_ (by omega)
  have a:=(qu v 48 0 (by omega)).1
  have b:=(qu w 48 0 (by omega)).2
  have:=(h 0 (by omega)).2.1
  omega
 have k3:k*kfN kmX w 48≤k*M:=Int.mul_le_mul_of_nonneg_left (by rw[e2]; exact (h j (by omega)).2.2) (by omega)
 have q1:=(PV (X:=wmO kmN c v k) (n:=wmN c k) (by rw[eN]; omega) (by rw[eO1]; omega)).1
 have q2:=(PV (X:=wmO kmX c w k) (n:=wmN c k) (by rw[eN]; omega) (by rw[eO2]; omega)).2
 have w1:wmW kmN 1 c v k=wmO kmN c v k / wmN c k:=q1
 have w2:wmW kmX 2 c w k=-((-wmO kmX c w k) / wmN c k):=q2
 have hn:0<wmN c k:=by rw[eN]; omega
 have xL:L*wmN c k≤wmO kmN c v k:=by
  rw[eN,eO1,Int.mul_add,Int.mul_comm L,Int.mul_comm L]; omega
 have xM:(-M)*wmN c k≤-wmO kmX c w k:=by
  rw[eN,eO2,Int.neg_mul,Int.mul_add,Int.mul_comm M,Int.mul_comm M]; omega
 have xX:wmO kmN c v k≤wmO kmX c w k:=by rw[eO1,eO2]; omega
 rw[w1,w2]
 have a1:=Int.le_ediv_of_mul_le hn xL
 have a3:=Int.le_ediv_of_mul_le hn xM
 have a2:wmO kmN c v k / wmN c k≤-((-wmO kmX c w k) / wmN c k):=by
  have m1:=Int.ediv_mul_le (wmO kmN c v k) (show wmN c k≠0 by omega)
  have m2:=Int.ediv_mul_le (-wmO kmX c w k) (show wmN c k≠0 by omega)
  have m3:(wmO kmN c v k / wmN c k)*wmN c k≤(-((-wmO kmX c w k) / wmN c k))*wmN c k:=by rw[Int.neg_mul]; omega
  exact Int.le_of_mul_le_mul_right m3 hn
 exact⟨a1,a2,by omega⟩
theorem Te {e:Int→Int}:woE e=0↔∀i:Nat,i<49→e (i:Int)=0:=by
 unfold woE
 constructor
 ·intro h i hi
  cases hf:(List.range 49).find? fun i:Nat=>!(e (i:Int)==0) with
  |none=>
   have:=List.find?_eq_none.1 hf i (List.mem_range.2 hi)
   simpa using this
  |some j=>
   rw[hf] at h
   have:=List.find?_some hf
   replace h:e (j:Int)=0:=h
   rw[h] at this
   exact absurd this (by decide)
 ·intro h
  rw[List.find?_eq_none.2 fun i hi=>by rw[h i (List.mem_range.1 hi)]; decide]
theorem D3 {f:Int→Int} (hf:∀i:Nat,i<49→-16≤f (i:Int)∧f (i:Int)≤16):WoI (woL f 49)∧∀i,i<49→(woL f 49).getD i 0=f (i:Int)*65536:=by
 have len:(woL f 49).length=49:=by unfold woL; rw[List.length_map,List.length_range]
 have at_:∀i,i<49→(woL f 49).getD i 0=f (i:Int)*65536:=fun i hi=>by
  have:=hf i hi
  unfold woL
  rw[List.getD_eq_getElem?_getD,List.getElem?_map,List.getElem?_range hi]
  exact aP _ (by omega)
 refine⟨⟨len,fun i=>?_⟩,at_⟩
 rcases Nat.lt_or_ge i 49 with hi|hi
 ·have:=hf i hi
  rw[at_ i hi]; omega
 ·rw[List.getD_eq_getElem?_getD,List.getElem?_eq_none (by omega)]
  decide
theorem Re {g:Bool} {c:List Int} {d tm:Int}:woV g c d tm=true↔g=true∧WoC c∧(1≤d∧d≤1000)∧0≤tm∧tm≤1:=by
 unfold woV
 simp only[Bool.and_eq_true,decide_eq_true_eq,beq_iff_eq]
 constructor
 ·rintro⟨h1,h2,h3,h4,h5⟩
  exact⟨h1,⟨by omega,h2⟩,h4,h5⟩
 ·rintro⟨h1,h2,h4,h5⟩
  exact⟨h1,h2.ok,by have:=h2.len; omega,h4,h5⟩
/-! Points are at most 16. -/
theorem Rf (tm:Int) (R:List BdI) {x:Int} (h:x∈kpV tm R):-16≤x∧x≤16:=by
 unfold kpV at h
 obtain⟨p,hp,rfl⟩:=List.mem_map.1 h
 have hq:0≤p.2.1∧p.2.1≤16:=by
  unfold kqS scR at hp
  revert hp
  cases bZ (iE (bz R) (dI R)) (exL (iE (bz R) (dI R)))==0
  ·intro hp; cases hp
  ·intro hp; exact (Jw hp).2.2
 unfold sgT
 cases p.1==IntKind.i64.wrap (1-tm)
 ·show -16≤p.2.1∧p.2.1≤16; omega
 ·show -16≤IntKind.i64.wrap (0-p.2.1)∧IntKind.i64.wrap (0-p.2.1)≤16
  rw[aP _ (by omega)]; omega
theorem Rg (tm:Int) (R:List BdI):-16≤kfL kmN (kpV tm R)∧kfL kmN (kpV tm R)≤kfL kmX (kpV tm R)∧kfL kmX (kpV tm R)≤16:=by
 have g:∀i,-16≤(kpV tm R).getD i 0∧(kpV tm R).getD i 0≤16:=fun i=>by
  rcases Nat.lt_or_ge i (kpV tm R).length with hi|hi
  ·exact Rf tm R (by rw[List.getD_eq_getElem?_getD,List.getElem?_eq_getElem hi]; exact List.getElem_mem _)
  ·rw[List.getD_eq_getElem?_getD,List.getElem?_eq_none hi]; decide
 unfold kfL
 obtain⟨⟨i,_,e1⟩,j,_,e2⟩:=vF (kpV tm R) ((kpV tm R).length-1)
 have l:=qu (kpV tm R) ((kpV tm R).length-1) 0 (by omega)
 have a:=g i
 have b:=g j
 rw[←e1] at a
 rw[←e2] at b
 omega
def mqN (f:Int→Int):Nat→Int
 |0=>100
 |i+1=>kmN (mqN f i) (f (i:Int))
def mqX (f:Int→Int):Nat→Int
 |0=>-100
 |i+1=>kmX (mqX f i) (f (i:Int))
theorem J6 {f:Int→Int} (hf:∀i:Nat,i<49→-16≤f (i:Int)∧f (i:Int)≤16):∀n,n≤49→(-100≤mqN f n∧mqN f n≤100)∧∀i,i<n→mqN f n≤f (i:Int)
 |0,_=>⟨by unfold mqN; omega,fun i h=>by omega⟩
 |n+1,hn=>by
  obtain⟨h1,h2⟩:=J6 hf n (by omega)
  have a:=hf n (by omega)
  have q:mqN f (n+1)≤mqN f n∧mqN f (n+1)≤f (n:Int)∧-100≤mqN f (n+1):=by rw[mqN]; unfold kmN; split<;>omega
  refine⟨by omega,fun i hi=>?_⟩
  rcases Nat.lt_or_ge i n with hi'|hi'
  ·have:=h2 i hi'; omega
  ·have:i=n:=by omega
   subst this; exact q.2.1
theorem J7 {f:Int→Int} (hf:∀i:Nat,i<49→-16≤f (i:Int)∧f (i:Int)≤16):∀n,n≤49→(-100≤mqX f n∧mqX f n≤100)∧∀i,i<n→f (i:Int)≤mqX f n
 |0,_=>⟨by unfold mqX; omega,fun i h=>by omega⟩
 |n+1,hn=>by
  obtain⟨h1,h2⟩:=J7 hf n (by omega)
  have a:=hf n (by omega)
  have q:mqX f n≤mqX f (n+1)∧f (n:Int)≤mqX f (n+1)∧mqX f (n+1)≤100:=by rw[mqX]; unfold kmX; split<;>omega
  refine⟨by omega,fun i hi=>?_⟩
  rcases Nat.lt_or_ge i n with hi'|hi'
  ·have:=h2 i hi'; omega
  ·have:i=n:=by omega
   subst this; exact q.2.1
noncomputable def np:FuncId→Option Fsp:=fun _=>none
theorem ib:aD np:=fun g S h=>by cases h
set_option maxRecDepth 100000 in
theorem J8 (N n0:Nat) (α:Type) (x y:Int) (k:AOut→Option α):am real tab ((twY np de).env real tab N (n0+8)) N Tryz.f94 α [.agg [.int .i64 x,.int .i64 y]] k =
 bif decide (-6553600000≤x) then bif decide (x≤6553600000) then bif decide (-6553600000≤y) then k (AOut.ret (AVal.bool (decide (y≤6553600000)))) else k (AOut.ret (AVal.bool
 false)) else k (AOut.ret (AVal.bool false)) else k (AOut.ret (AVal.bool false)):=by kernel_rfl
set_option maxRecDepth 100000 in
theorem J9 (N n0:Nat) (α:Type) (x y:Int) (k:AOut→Option α):am real tab ((twY np de).env real tab N (n0+8)) N Tryz.f95 α [.agg [.int .i64 x,.int .i64 y]] k =
 bif decide (IntKind.i64.wrap ((if x<IntKind.i64.wrap (0-x) then IntKind.i64.wrap (0-x) else x)+9502720)≥155648000) then bif decide (IntKind.i64.wrap ((if x <
 IntKind.i64.wrap (0-x) then IntKind.i64.wrap (0-x) else x)+9502720)≥155648000) then k (AOut.ret (AVal.int IntKind.i64 0)) else bif decide (IntKind.i64.wrap (IntKind.i64.wrap
 (x*x)+IntKind.i64.wrap (y*y))≤16736095983108096) then k (AOut.ret (AVal.int IntKind.i64 2)) else bif decide (IntKind.i64.wrap (y+9502720)<0) then k (AOut.ret (AVal.int
 IntKind.i64 1)) else k (AOut.ret (AVal.int IntKind.i64 3)) else bif decide (IntKind.i64.wrap (y-9502720)>119865344) then bif decide (IntKind.i64.wrap (y-9502720)>119865344)
 then k (AOut.ret (AVal.int IntKind.i64 0)) else bif decide (IntKind.i64.wrap (IntKind.i64.wrap (x*x)+IntKind.i64.wrap (y*y))≤16736095983108096) then k (AOut.ret (AVal.int
 IntKind.i64 2)) else bif decide (IntKind.i64.wrap (y+9502720)<0) then k (AOut.ret (AVal.int IntKind.i64 1)) else k (AOut.ret (AVal.int IntKind.i64 3)) else bif decide
 (IntKind.i64.wrap (y-9502720)≤-419495936) then k (AOut.ret (AVal.int IntKind.i64 0)) else bif decide (IntKind.i64.wrap (IntKind.i64.wrap (x*x)+IntKind.i64.wrap (y*y)) ≤
 16736095983108096) then k (AOut.ret (AVal.int IntKind.i64 2)) else bif decide (IntKind.i64.wrap (y+9502720)<0) then k (AOut.ret (AVal.int IntKind.i64 1)) else k (AOut.ret
 (AVal.int IntKind.i64 3)):=by kernel_rfl
set_option maxRecDepth 100000 in
theorem Ka (N n0:Nat) (α:Type) (x y u v:Int) (k:AOut→Option α):am real tab ((twY np de).env real tab N (n0+8)) N Tryz.f152 α [.agg [.int .i64 x,.int .i64 y],.agg [.int .i64 u,.int .i64 v]] k =
 bif decide ((if (if IntKind.i64.wrap (x-u)<IntKind.i64.wrap (0-IntKind.i64.wrap (x-u)) then IntKind.i64.wrap (0-IntKind.i64.wrap (x-u)) else IntKind.i64.wrap (x-u)) <
 if IntKind.i64.wrap (y-v)<IntKind.i64.wrap (0-IntKind.i64.wrap (y-v)) then IntKind.i64.wrap (0-IntKind.i64.wrap (y-v)) else IntKind.i64.wrap (y-v) then if
 IntKind.i64.wrap (y-v)<IntKind.i64.wrap (0-IntKind.i64.wrap (y-v)) then IntKind.i64.wrap (0-IntKind.i64.wrap (y-v)) else IntKind.i64.wrap (y-v) else if
 IntKind.i64.wrap (x-u)<IntKind.i64.wrap (0-IntKind.i64.wrap (x-u)) then IntKind.i64.wrap (0-IntKind.i64.wrap (x-u)) else IntKind.i64.wrap (x-u))>19005440) then k
 (AOut.ret (AVal.int IntKind.i64 1)) else bif decide (IntKind.i64.wrap (IntKind.i64.wrap (IntKind.i64.wrap (x-u)*IntKind.i64.wrap (x-u))+IntKind.i64.wrap (IntKind.i64.wrap (y
 - v)*IntKind.i64.wrap (y-v)))<361206749593600) then k (AOut.ret (AVal.int IntKind.i64 (-1))) else bif decide (IntKind.i64.wrap (IntKind.i64.wrap (IntKind.i64.wrap (x-u) *
 IntKind.i64.wrap (x-u))+IntKind.i64.wrap (IntKind.i64.wrap (y-v)*IntKind.i64.wrap (y-v)))>361206749593600) then k (AOut.ret (AVal.int IntKind.i64 1)) else k (AOut.ret
 (AVal.int IntKind.i64 0)):=by kernel_rfl
/-! Contracts. -/
theorem k6 (n:Int) (h:-9223372036854775808≤n∧n≤9223372036854775807):IntKind.i64.wrap n=n:=by rw[IntKind.wrap_i64]; omega
def eK (x y:Int):Bool:=(decide (-6553600000≤x)&&decide (x≤6553600000))&&(decide (-6553600000≤y)&&decide (y≤6553600000))
theorem Bj {x y:Int} (h:eK x y=true):(-6553600000≤x∧x≤6553600000)∧-6553600000≤y∧y≤6553600000:=by
 unfold eK at h
 simpa only[Bool.and_eq_true,decide_eq_true_eq] using h
def qsz (x:Int):Int:=if x < -x then -x else x
theorem Bk {x:Int} (h:-90000000000≤x∧x≤90000000000):(if x<IntKind.i64.wrap (0-x) then IntKind.i64.wrap (0-x) else x)=qsz x:=by
 rw[k6 (0-x) (by omega)]
 unfold qsz
 rw[show (0:Int)-x=-x by omega]
theorem vG (x:Int):(0≤x∧qsz x=x)∨(x<0∧qsz x=-x):=by
 unfold qsz
 split<;>omega
def qmx (a b:Int):Int:=if a<b then b else a
def qzn (x y:Int):Int:=if qsz x+9502720≥155648000 then 0 else if y-9502720>119865344 then 0 else if y-9502720≤-419495936 then 0 else if x*x+y*y≤16736095983108096 then 2 else if y+9502720<0 then 1 else 3
def qcn (x y:Int):Int:=if qmx (qsz x) (qsz y)>19005440 then 1 else if x*x+y*y<361206749593600 then -1 else if x*x+y*y>361206749593600 then 1 else 0
theorem nq {a B:Int} (h:-B≤a∧a≤B):0≤a*a∧a*a≤B*B:=by
 rcases Int.le_total 0 a with h0|h0
 ·have h1:=Int.mul_le_mul_of_nonneg_left h.2 h0
  have h2:=Int.mul_le_mul_of_nonneg_right h.2 (show 0≤B by omega)
  exact⟨Int.mul_nonneg h0 h0,by omega⟩
 ·have h3:(-a)*(-a)=a*a:=Int.neg_mul_neg a a
  have h1:=Int.mul_le_mul_of_nonneg_left (show -a≤B by omega) (show 0≤-a by omega)
  have h2:=Int.mul_le_mul_of_nonneg_right (show -a≤B by omega) (show 0≤B by omega)
  have h4:=Int.mul_nonneg (show 0≤-a by omega) (show 0≤-a by omega)
  omega
noncomputable def NY:Fsp:=fun _ args k=>match args with
 | [.agg [.int .i64 x,.int .i64 y]]=>k (.ret (.bool (eK x y)))
 |_=>none
theorem NZ:FspOk Tryz.prog 94 NY:=aq ib a8 ⟨Tryz.func94,fun _ _=>by kernel_rfl⟩ (by intro α args k; unfold NY; split<;>rfl) fun args out hSm hEq=>by
 unfold NY at hEq
 split at hEq
 ·rename_i x y
  refine⟨20,8,((J8 20 0 AOut x y some).trans ?_).trans hEq⟩
  unfold eK
  cases decide (-6553600000≤x)<;>cases decide (x≤6553600000)<;>cases decide (-6553600000≤y)<;>rfl
 ·cases hEq
noncomputable def N0:Fsp:=fun _ args k=>match args with
 | [.agg [.int .i64 x,.int .i64 y]]=>bif eK x y then k (.ret (.int .i64 (qzn x y))) else none
 |_=>none
theorem N1:FspOk Tryz.prog 95 N0:=aq ib a8 ⟨Tryz.func95,fun _ _=>by kernel_rfl⟩ (by intro α args k; unfold N0; split<;>simp only[ak,Option.bind_some,Option.bind_none]) fun args out hSm hEq=>by
 unfold N0 at hEq
 split at hEq
 ·rename_i x y
  cases hb:eK x y
  ·rw[hb] at hEq; cases hEq
  rw[hb] at hEq
  refine⟨20,8,((J9 20 0 AOut x y some).trans ?_).trans hEq⟩
  obtain⟨hx,hy⟩:=Bj hb
  have hz:=vG x
  rw[Bk (x:=x) (by omega),k6 (qsz x+9502720) (by omega),k6 (y-9502720) (by omega),k6 (y+9502720) (by omega)]
  unfold qzn
  by_cases h1:qsz x+9502720≥155648000
  ·rw[if_pos h1,decide_eq_true h1]; rfl
  ·rw[if_neg h1,decide_eq_false h1,cond_false]
   by_cases h2:y-9502720>119865344
   ·rw[if_pos h2,decide_eq_true h2]; rfl
   ·rw[if_neg h2,decide_eq_false h2,cond_false]
    by_cases h3:y-9502720≤-419495936
    ·rw[if_pos h3,decide_eq_true h3]; rfl
    ·rw[if_neg h3,decide_eq_false h3,cond_false]
     have s1:=nq (a:=x) (B:=155648000) (by omega)
     have s2:=nq (a:=y) (B:=419495936) (by omega)
     rw[k6 (x*x) (by omega),k6 (y*y) (by omega),k6 (x*x+y*y) (by omega)]
     by_cases h4:x*x+y*y≤16736095983108096
     ·rw[if_pos h4,decide_eq_true h4]; rfl
     ·rw[if_neg h4,decide_eq_false h4,cond_false]
      by_cases h5:y+9502720<0
      ·rw[if_pos h5,decide_eq_true h5]; rfl
      ·rw[if_neg h5,decide_eq_false h5]; rfl
 ·cases hEq
noncomputable def N2:Fsp:=fun _ args k=>match args with
 | [.agg [.int .i64 x,.int .i64 y],.agg [.int .i64 u,.int .i64 v]]=>bif eK x y&&eK u v then k (.ret (.int .i64 (qcn (x-u) (y-v)))) else none
 |_=>none
theorem N3:FspOk Tryz.prog 152 N2:=aq ib a8 ⟨Tryz.func152,fun _ _=>by kernel_rfl⟩ (by intro α args k; unfold N2; split<;>simp only[ak,Option.bind_some,Option.bind_none]) fun args out hSm hEq=>by
 unfold N2 at hEq
 split at hEq
 ·rename_i x y u v
  cases hb:eK x y&&eK u v
  ·rw[hb] at hEq; cases hEq
  rw[hb] at hEq
  rw[Bool.and_eq_true] at hb
  refine⟨20,8,((Ka 20 0 AOut x y u v some).trans ?_).trans hEq⟩
  obtain⟨hx,hy⟩:=Bj hb.1
  obtain⟨hu,hv⟩:=Bj hb.2
  rw[k6 (x-u) (by omega),k6 (y-v) (by omega)]
  generalize hX:x-u=X
  generalize hY:y-v=Y
  rw[Bk (x:=X) (by omega),Bk (x:=Y) (by omega)]
  change (bif decide (qmx (qsz X) (qsz Y)>19005440) then _ else _)=_
  have z1:=vG X
  have z2:=vG Y
  unfold qcn
  by_cases h1:qmx (qsz X) (qsz Y)>19005440
  ·rw[if_pos h1,decide_eq_true h1]; rfl
  ·rw[if_neg h1,decide_eq_false h1,cond_false]
   have h1':qsz X≤19005440∧qsz Y≤19005440:=by
    unfold qmx at h1
    split at h1<;>omega
   have s1:=nq (a:=X) (B:=19005440) (by omega)
   have s2:=nq (a:=Y) (B:=19005440) (by omega)
   rw[k6 (X*X) (by omega),k6 (Y*Y) (by omega),k6 (X*X+Y*Y) (by omega)]
   by_cases h2:X*X+Y*Y<361206749593600
   ·rw[if_pos h2,decide_eq_true h2]; rfl
   ·rw[if_neg h2,decide_eq_false h2,cond_false]
    by_cases h3:X*X+Y*Y>361206749593600
    ·rw[if_pos h3,decide_eq_true h3]; rfl
    ·rw[if_neg h3,decide_eq_false h3]; rfl
 ·cases hEq
noncomputable def vH:FuncId→Option Fsp:=fun g=>
 if g=94 then some NY else
 if g=95 then some N0 else
 if g=152 then some N2 else
 np g
theorem kf:aD vH:=
 ae NZ <|
 ae N1 <|
 ae N3 <|
 ib
abbrev QvI:=Int × Int × Int × Int × Int × Unit
def N4 {α:Type} (k:AOut→Option α) (i:Int) (D:List SnI) (x:QvI):Option (LRes QvI (LRes (Int × Unit) α)):=
 bif decide (x.1<(D.length:Int)) then
  if 0≤x.1∧x.1<(D.length:Int) then
   bif eK x.2.2.2.1 x.2.2.2.2.1 then
    bif eK (D.getD x.1.toNat snD).x (D.getD x.1.toNat snD).y then
     bif eK x.2.2.2.1 x.2.2.2.2.1&&eK (D.getD x.1.toNat snD).x (D.getD x.1.toNat snD).y then
      bif qcn (x.2.2.2.1-(D.getD x.1.toNat snD).x) (x.2.2.2.2.1-(D.getD x.1.toNat snD).y)==-1 then
       finL (bif decide (x.1≥0) then finL (k (.ret (.tup [.int .i64 i,.int .i64 (IntKind.i64.wrap (IntKind.i64.wrap (i+1)+x.1))]))) else some (.cont (IntKind.i64.wrap (i+1),())))
      else some (.cont (IntKind.i64.wrap (x.1+1),x.2.1,x.2.2.1,x.2.2.2.1,x.2.2.2.2.1,()))
     else none
    else some (.cont (IntKind.i64.wrap (x.1+1),x.2.1,x.2.2.1,x.2.2.2.1,x.2.2.2.2.1,()))
   else some (.cont (IntKind.i64.wrap (x.1+1),x.2.1,x.2.2.1,x.2.2.2.1,x.2.2.2.2.1,()))
  else none
 else some (.brk 0 (x.1,x.2.1,x.2.2.1,x.2.2.2.1,x.2.2.2.2.1,()))
def Gj {α:Type} (N:Nat) (l:List SnI) (k:AOut→Option α) (x:Int × Unit):Option (LRes (Int × Unit) α):=
 bif decide (x.1<(l.length:Int)) then
  if 0≤x.1∧x.1<(l.length:Int) then
   if 0≤IntKind.i64.wrap (x.1+1)∧IntKind.i64.wrap (x.1+1)≤(l.length:Int) then
    ag (af N (N4 k x.1 (l.drop (IntKind.i64.wrap (x.1+1)).toNat)) (0,(l.getD x.1.toNat snD).1,(l.getD x.1.toNat snD).2.1,(l.getD x.1.toNat snD).2.2.1.1,(l.getD x.1.toNat snD).2.2.1.2.1,())) fun id _=>if id=0 then some (.cont (IntKind.i64.wrap (x.1+1),())) else none
   else none
  else none
 else some (.brk 0 (x.1,()))
set_option maxRecDepth 100000 in
theorem Gk (N n0:Nat) (α:Type) (l:List SnI) (k:AOut→Option α):am real tab ((twN vH de).env real tab N (n0+30)) N Tryz.f96 α [.ro (.recd (.cons (.int .i64) (.cons (.int .i64) (.cons (.recd (.cons (.int .i64) (.cons (.int .i64) .nil))) .nil)))) l] k =
 ag (af N (Gj N l k) (0,())) fun id _=>if id=0 then k (.ret (.tup [.int .i64 (-1),.int .i64 (-1)])) else none:=by kernel_rfl
theorem tL {σ α:Type} {f:σ→Option (LRes σ α)} {K:Nat→σ→Option α} (st:Nat→σ) (p:Nat→Bool) {b:Nat} {y:σ} (R:Nat→Option α) (n:Nat) (h:∀i,i<n→f (st i)=bif p i then finL (R i) else some (.cont (st (i+1)))) (hend:f (st n)=some (.brk b y)):∀k m,m+k=n→∀N,k<N→ag (af N f (st m)) K=match (List.range' m k).find? p with|some i=>R i|none=>K b y
 |0,m,hm,N,hN=>by
  cases N with
  |zero=>omega
  |succ N=>
   have:m=n:=by omega
   subst this
   simp only[af,hend]
   rfl
 |k+1,m,hm,N,hN=>by
  cases N with
  |zero=>omega
  |succ N=>
   have hf:=h m (by omega)
   have ih:=tL (K:=K) st p R n h hend k (m+1) (by omega) N (by omega)
   rw[List.range'_succ,List.find?_cons]
   cases hp:p m
   ·rw[hp] at hf
    rw[←ih]
    conv=>lhs; unfold af
    rw[hf]
    rfl
   ·rw[hp,cond_true] at hf
    simp only[af,hf]
    cases hR:R m<;>simp[ag,finL]
theorem k7 {σ α:Type} {f:σ→Option (LRes σ α)} {K:Nat→σ→Option α} (st:Nat→σ) (n:Nat) (p:Nat→Bool) {b:Nat} {y:σ} (R:Nat→Option α) (h:∀i,i<n→f (st i)=bif p i then finL (R i) else some (.cont (st (i+1)))) (hend:f (st n)=some (.brk b y)) {N:Nat} (hN:n<N):ag (af N f (st 0)) K=match (List.range n).find? p with|some i=>R i|none=>K b y:=by
 rw[tL st p R n h hend n 0 (by omega) N hN,←List.range_eq_range']
def qvB (a b:SnI):Bool:=eK a.x a.y&&(eK b.x b.y&&qcn (a.x-b.x) (a.y-b.y)==-1)
def qvJ (l:List SnI) (i:Nat):Option Nat:=(List.range (l.length-(i+1))).find? fun j=>qvB (l.getD i snD) (l.getD (i+1+j) snD)
def qvI (l:List SnI):Option Nat:=(List.range l.length).find? fun i=>(qvJ l i).isSome
def qvX (l:List SnI):Int:=match qvI l with
 |none=>-1
 |some i=>(i:Int)
def qvY (l:List SnI):Int:=match qvI l with
 |none=>-1
 |some i=>((i+1+(qvJ l i).getD 0:Nat):Int)
theorem Rh {α:Type} {l:List SnI} (hl:l.length≤maxLen) {i:Nat} (hi:i<l.length) (k:AOut→Option α):Gj (l.length+1) l k ((i:Int),())=bif (qvJ l i).isSome then finL (k (.ret (.tup [.int .i64 (i:Int),.int .i64 ((i+1+(qvJ l i).getD 0:Nat):Int)]))) else some (.cont (((i+1:Nat):Int),())):=by
 have hm:maxLen=9223372036854775807:=rfl
 unfold Gj
 simp only[aR hi,cond_true,aH hi,if_pos,and_self,Int.toNat_natCast,ao hi hl]
 rw[if_pos ⟨by omega,by omega⟩]
 have dl:(l.drop (i+1)).length=l.length-(i+1):=List.length_drop
 have dg:∀j,(l.drop (i+1)).getD j snD=l.getD (i+1+j) snD:=fun j=>by
  rw[List.getD_eq_getElem?_getD,List.getD_eq_getElem?_getD,List.getElem?_drop]
 refine (k7 (f:=N4 k (i:Int) (l.drop (i+1))) (fun j:Nat=>((j:Int),(l.getD i snD).1,(l.getD i snD).2.1,(l.getD i snD).2.2.1.1,(l.getD i snD).2.2.1.2.1,())) (l.length-(i+1)) (fun j=>qvB (l.getD i snD) (l.getD (i+1+j) snD)) (b:=0) (y:=(((l.length-(i+1):Nat):Int),(l.getD i snD).1,(l.getD i snD).2.1,(l.getD i snD).2.2.1.1,(l.getD i snD).2.2.1.2.1,())) (fun j=>finL (k (.ret (.tup [.int .i64 (i:Int),.int .i64 ((i+1+j:Nat):Int)])))) (fun j hj=>?_) ?_ (N:=l.length+1) (by omega)).trans ?_
 ·have hj':j<(l.drop (i+1)).length:=by omega
  unfold N4 qvB
  have e1:decide ((j:Int)≥0)=true:=decide_eq_true (by omega)
  have e2:IntKind.i64.wrap (IntKind.i64.wrap ((i:Int)+1)+(j:Int))=((i+1+j:Nat):Int):=by
   rw[ao hi hl,show ((i+1:Nat):Int)+(j:Int)=((i+1+j:Nat):Int) by omega,gB (n:=i+1+j) (by omega)]
  simp only[e1,e2,dl,aR hj,cond_true,aH hj,if_pos,and_self,decide_true,Int.toNat_natCast,dg,ao hj (show l.length-(i+1)≤maxLen by omega)]
  cases eK (l.getD i snD).x (l.getD i snD).y
  ·rfl
  cases eK (l.getD (i+1+j) snD).x (l.getD (i+1+j) snD).y
  ·rfl
  cases qcn ((l.getD i snD).x-(l.getD (i+1+j) snD).x) ((l.getD i snD).y-(l.getD (i+1+j) snD).y)==-1<;>rfl
 ·unfold N4
  simp only[dl,ap,cond_false]
 ·unfold qvJ
  cases (List.range (l.length-(i+1))).find? fun j=>qvB (l.getD i snD) (l.getD (i+1+j) snD) with
  |none=>rfl
  |some j=>rfl
theorem Ri {α:Type} {l:List SnI} (hl:l.length≤maxLen) (k:AOut→Option α):(ag (af (l.length+1) (Gj (l.length+1) l k) (0,())) fun id _=>if id=0 then k (.ret (.tup [.int .i64 (-1),.int .i64 (-1)])) else none)=k (.ret (.tup [.int .i64 (qvX l),.int .i64 (qvY l)])):=by
 refine (k7 (f:=Gj (l.length+1) l k) (fun i:Nat=>((i:Int),())) l.length (fun i=>(qvJ l i).isSome) (b:=0) (y:=((l.length:Int),())) (fun i=>k (.ret (.tup [.int .i64 (i:Int),.int .i64 ((i+1+(qvJ l i).getD 0:Nat):Int)]))) (fun i hi=>Rh hl hi k) ?_ (by omega)).trans ?_
 ·unfold Gj
  simp only[ap,cond_false]
 ·unfold qvX qvY qvI
  cases (List.range l.length).find? fun i=>(qvJ l i).isSome with
  |none=>rfl
  |some i=>rfl
noncomputable def N5:Fsp:=fun _ args k=>match args with
 | [.ro (.recd (.cons (.int .i64) (.cons (.int .i64) (.cons (.recd (.cons (.int .i64) (.cons (.int .i64) .nil))) .nil)))) l]=>k (.ret (.tup [.int .i64 (qvX l),.int .i64 (qvY l)]))
 |_=>none
theorem N6:FspOk Tryz.prog 96 N5:=OM kf a8 ⟨Tryz.func96,fun _ _=>by kernel_rfl⟩ (by intro α args k; unfold N5; split<;>rfl) fun args out hSm hEq=>by
 unfold N5 at hEq
 split at hEq
 ·rename_i l
  exact⟨List.length (α:=SnI) l+1,30,((Gk _ 0 AOut l some).trans (Ri (hSm _ (.head _)).len some)).trans hEq⟩
 ·cases hEq
section
variable (S:Int→Int)
def qin:Nat→List Int→List Int
 |0,V=>V
 |j+1,V=>bif decide (S (V.getD (j+1) 0)<S (V.getD j 0)) then qin j ((V.set (j+1) (V.getD j 0)).set j (V.getD (j+1) 0)) else V
def qis:Nat→List Int→List Int
 |0,V=>V
 |i+1,V=>qin S (i+1) (qis i V)
theorem qv {V:List Int} {i j:Nat} (hi:i<V.length) (hj:j<V.length):((V.set i (V.getD j 0)).set j (V.getD i 0)).Perm V:=by
 rw[List.getD_eq_getElem?_getD,List.getD_eq_getElem?_getD,List.getElem?_eq_getElem hi,List.getElem?_eq_getElem hj]
 exact List.set_set_perm hi hj
theorem yu:∀j V,j<V.length→(qin S j V).Perm V
 |0,V,_=>.refl _
 |j+1,V,h=>by
  rw[qin]
  cases decide (S (V.getD (j+1) 0)<S (V.getD j 0))
  ·exact .refl _
  ·exact (yu j _ (by rw[List.length_set,List.length_set]; omega)).trans (qv h (by omega))
theorem ic:∀i (V:List Int),i<V.length→(qis S i V).Perm V
 |0,V,_=>.refl _
 |i+1,V,h=>by
  have ih:=ic i V (by omega)
  exact (yu S (i+1) _ (by rw[ih.length_eq]; exact h)).trans ih
def qRs (V:List Int) (n:Nat):Prop:=∀a b,a<b→b<n→S (V.getD a 0)≤S (V.getD b 0)
theorem Kb (n:Nat):∀j V,j<n→n≤V.length→(∀a b,a<b→b<n→a≠j→b≠j→S (V.getD a 0)≤S (V.getD b 0))→(∀b,j<b→b<n→S (V.getD j 0)≤S (V.getD b 0))→qRs S (qin S j V) n
 |0,V,_,_,h1,h2=>fun a b hab hb=>by
  by_cases ha:a=0
  ·subst ha; exact h2 b hab hb
  ·exact h1 a b hab hb ha (by omega)
 |j+1,V,hj,hn,h1,h2=>by
  rw[qin]
  cases hc:decide (S (V.getD (j+1) 0)<S (V.getD j 0))
  ·have hc:=of_decide_eq_false hc
   rw[cond_false]
   intro a b hab hb
   by_cases ha:a=j+1
   ·subst ha; exact h2 b hab hb
   ·by_cases hb':b=j+1
    ·subst hb'
     by_cases hj':a=j
     ·subst hj'; omega
     ·have:=h1 a j (by omega) (by omega) ha (by omega)
      show S (V.getD a 0)≤S (V.getD (j+1) 0)
      omega
    ·exact h1 a b hab hb ha hb'
  ·have hc:=of_decide_eq_true hc
   rw[cond_true]
   have g:∀k,((V.set (j+1) (V.getD j 0)).set j (V.getD (j+1) 0)).getD k 0=if k=j then V.getD (j+1) 0 else if k=j+1 then V.getD j 0 else V.getD k 0:=fun k=>by
    rw[g9 _ _ _ _ _ (by rw[List.length_set]; omega),g9 _ _ _ _ _ (by omega)]
   refine Kb n j _ (by omega) (by rw[List.length_set,List.length_set]; exact hn) (fun a b hab hb ha hb'=>?_) (fun b hab hb=>?_)
   ·rw[g,g,if_neg ha,if_neg hb']
    by_cases h3:a=j+1
    ·rw[if_pos h3,if_neg (by omega)]
     exact h1 j b (by omega) hb (by omega) (by omega)
    ·rw[if_neg h3]
     by_cases h4:b=j+1
     ·rw[if_pos h4]
      exact h1 a j (by omega) (by omega) h3 (by omega)
     ·rw[if_neg h4]; exact h1 a b hab hb h3 h4
   ·rw[g,g,if_pos rfl,if_neg (by omega)]
    by_cases h4:b=j+1
    ·rw[if_pos h4]; omega
    ·rw[if_neg h4]; exact h2 b (by omega) hb
theorem Kc:∀i (V:List Int),i<V.length→qRs S (qis S i V) (i+1)
 |0,V,_=>fun a b hab hb=>by omega
 |i+1,V,h=>by
  have ih:=Kc i V (by omega)
  have hl:=(ic S i V (by omega)).length_eq
  exact Kb S (i+2) (i+1) _ (by omega) (by omega) (fun a b hab hb ha hb'=>ih a b hab (by omega)) (fun b hab hb=>by omega)
def qst (V:List Int):List Int:=qis S (V.length-1) V
theorem lY (V:List Int):(qst S V).Perm V:=by
 unfold qst
 rcases Nat.eq_zero_or_pos V.length with h|h
 ·rw[h]; exact .refl _
 ·exact ic S _ V (by omega)
theorem Rj (V:List Int):qRs S (qst S V) V.length:=by
 unfold qst
 rcases Nat.eq_zero_or_pos V.length with h|h
 ·rw[h]; exact fun a b _ hb=>by omega
 ·have:=Kc S (V.length-1) V (by omega)
  rw[show V.length-1+1=V.length by omega] at this
  exact this
theorem D4 (i:Nat) (V:List Int) (h:i<V.length):(qis S i V).length=V.length:=(ic S i V h).length_eq
end
noncomputable def noS:Fsp:=fun _ _ _=>none
theorem Rk:FspOk Tryz.prog 193 noS:=aq kf a8 ⟨Tryz.func193,fun _ _=>by kernel_rfl⟩ (fun _ _ _=>rfl) fun args out hSm hEq=>by cases hEq
noncomputable def Ke:FuncId→Option Fsp:=fun g=>
 if g=193 then some noS else
 vH g
def qsW (l:List SnI) (i:Int):Int:=IntKind.i64.wrap (IntKind.i64.wrap ((l.getD i.toNat snD).x*(l.getD i.toNat snD).x)+IntKind.i64.wrap ((l.getD i.toNat snD).y*(l.getD i.toNat snD).y))
abbrev QnI:=List Int × Int × List SnI × Unit
def qnA {α:Type} (l:List SnI) (x:Int × List Int × Unit):Option (LRes (Int × List Int × Unit) α):=
 bif decide (x.1<(l.length:Int)) then
  if 0≤x.1∧x.1<(l.length:Int) then
   bif eK (l.getD x.1.toNat snD).x (l.getD x.1.toNat snD).y then
    bif qzn (l.getD x.1.toNat snD).x (l.getD x.1.toNat snD).y==2 then
     if (x.2.1.length+[x.1].length)*8≤room then some (.cont (IntKind.i64.wrap (x.1+1),x.2.1++[x.1],())) else none
    else some (.cont (IntKind.i64.wrap (x.1+1),x.2.1,()))
   else none
  else none
 else some (.brk 0 (x.1,x.2.1,()))
def qnI {α:Type} (a0:Int) (x:QnI):Option (LRes QnI α):=
 bif decide (x.2.1>a0) then
  if 0≤x.2.1∧x.2.1<(x.1.length:Int) then
   if 0≤IntKind.i64.wrap (x.2.1-1)∧IntKind.i64.wrap (x.2.1-1)<(x.1.length:Int) then
    if 0≤x.1.getD x.2.1.toNat 0∧x.1.getD x.2.1.toNat 0<(x.2.2.1.length:Int) then
     if 0≤x.1.getD (IntKind.i64.wrap (x.2.1-1)).toNat 0∧x.1.getD (IntKind.i64.wrap (x.2.1-1)).toNat 0<(x.2.2.1.length:Int) then
      bif decide (qsW x.2.2.1 (x.1.getD x.2.1.toNat 0)<qsW x.2.2.1 (x.1.getD (IntKind.i64.wrap (x.2.1-1)).toNat 0)) then
       if 0≤IntKind.i64.wrap (x.2.1-1)∧IntKind.i64.wrap (x.2.1-1)<(x.1.length:Int) then
        if 0≤x.2.1∧x.2.1<(x.1.length:Int) then
         if 0≤x.2.1∧x.2.1<(x.1.length:Int) then
          if 0≤IntKind.i64.wrap (x.2.1-1)∧IntKind.i64.wrap (x.2.1-1)<((x.1.set x.2.1.toNat (x.1.getD (IntKind.i64.wrap (x.2.1-1)).toNat 0)).length:Int) then
           some (.cont ((x.1.set x.2.1.toNat (x.1.getD (IntKind.i64.wrap (x.2.1-1)).toNat 0)).set (IntKind.i64.wrap (x.2.1-1)).toNat (x.1.getD x.2.1.toNat 0),IntKind.i64.wrap (x.2.1-1),x.2.2.1,()))
          else none
         else none
        else none
       else none
      else bif decide (qsW x.2.2.1 (x.1.getD x.2.1.toNat 0)>qsW x.2.2.1 (x.1.getD (IntKind.i64.wrap (x.2.1-1)).toNat 0)) then some (.brk 2 (x.1,x.2.1,x.2.2.1,())) else some (.brk 2 (x.1,x.2.1,x.2.2.1,()))
     else none
    else none
   else none
  else none
 else some (.brk 2 (x.1,x.2.1,x.2.2.1,()))
def qnO {α:Type} (N:Nat) (a0 n:Int) (x:QnI):Option (LRes QnI α):=
 bif decide (x.2.1<n) then
  ag (af N (qnI a0) (x.1,x.2.1,x.2.2.1,())) fun id y=>if id=2 then some (.cont (y.1,IntKind.i64.wrap (x.2.1+1),y.2.2.1,())) else none
 else some (.brk 0 (x.1,x.2.1,x.2.2.1,()))
def qnZ {α:Type} (l:List SnI) (V:List Int) (a0:Int) (x:Int × Unit):Option (LRes (Int × Unit) α):=
 bif decide (x.1>a0) then
  if 0≤x.1∧x.1<(V.length:Int) then
   if 0≤IntKind.i64.wrap (x.1-1)∧IntKind.i64.wrap (x.1-1)<(V.length:Int) then
    if 0≤V.getD x.1.toNat 0∧V.getD x.1.toNat 0<(l.length:Int) then
     if 0≤V.getD (IntKind.i64.wrap (x.1-1)).toNat 0∧V.getD (IntKind.i64.wrap (x.1-1)).toNat 0<(l.length:Int) then
      bif decide (qsW l (V.getD x.1.toNat 0)<qsW l (V.getD (IntKind.i64.wrap (x.1-1)).toNat 0)) then
       if 0≤IntKind.i64.wrap (x.1-1)∧IntKind.i64.wrap (x.1-1)<(V.length:Int) then
        if 0≤x.1∧x.1<(V.length:Int) then if 0≤x.1∧x.1<(V.length:Int) then none else none else none
       else none
      else bif decide (qsW l (V.getD x.1.toNat 0)>qsW l (V.getD (IntKind.i64.wrap (x.1-1)).toNat 0)) then some (.brk 2 (x.1,())) else some (.brk 2 (x.1,()))
     else none
    else none
   else none
  else none
 else some (.brk 2 (x.1,()))
def qnY {α:Type} (N:Nat) (l:List SnI) (V:List Int) (x:Int × Int × Unit):Option (LRes (Int × Int × Unit) α):=
 bif decide (x.2.1≤(V.length:Int)) then
  ag (af N (fun x1:Int × Unit=>bif decide (x1.1<x.2.1) then
   ag (af N (qnZ l V x.1) (x1.1,())) fun id _=>if id=2 then some (.cont (IntKind.i64.wrap (x1.1+1),())) else none
  else some (.brk 0 (x1.1,()))) (IntKind.i64.wrap (x.1+1),())) fun id _=>if id=0 then some (.cont (x.2.1,IntKind.i64.wrap (x.2.1+20),())) else none
 else some (.brk 0 (x.1,x.2.1,()))
def qnX {α:Type} (N:Nat) (V:List Int) (x:Int × Int × Int × Unit):Option (LRes (Int × Int × Int × Unit) α):=
 bif decide (x.2.2.1<(V.length:Int)) then
  ag (af N (fun x1:Int × Int × Unit=>bif decide (x1.2.1≤(V.length:Int)) then none else some (.brk 4 (x1.1,x1.2.1,()))) (0,IntKind.i64.wrap (2*x.2.2.1),())) fun id y3=>if id=4 then
   bif decide (IntKind.i64.wrap (y3.1+x.2.2.1)<(V.length:Int)) then none else some (.cont (y3.1,y3.2.1,IntKind.i64.wrap (x.2.2.1*2),()))
  else none
 else some (.brk 2 (x.1,x.2.1,x.2.2.1,()))
set_option maxRecDepth 100000 in
theorem Kf (N n0:Nat) (α:Type) (l:List SnI) (k:AOut→Option α):am real tab ((twY Ke de).env real tab N (n0+30)) N Tryz.f42 α [.ro (.recd (.cons (.int .i64) (.cons (.int .i64) (.cons (.recd (.cons (.int .i64) (.cons (.int .i64) .nil))) .nil)))) l] k =
 ag (af N (qnA l) (0,[],())) fun id y=>if id=0 then ag (af N (qnY N l y.2.1) (0,20,())) fun id y1=>if id=0 then ag (af N (qnO N y1.1 (y.2.1.length :
 Int)) (y.2.1,IntKind.i64.wrap (y1.1+1),l,())) fun id y2=>if id=0 then ag (af N (qnX N y.2.1) (y1.1,y1.2.1,20,())) fun id _=>if id=2 then k (.ret (.ro (.int
 .i64) y2.1)) else none else none else none else none:=by kernel_rfl
def qS (l:List SnI) (i:Int):Int:=(l.getD i.toNat snD).x*(l.getD i.toNat snD).x+(l.getD i.toNat snD).y*(l.getD i.toNat snD).y
def qtm (l:List SnI) (i:Int):Int:=(l.getD i.toNat snD).1
def qH (l:List SnI) (k:Nat):Bool:=qzn (l.getD k snD).x (l.getD k snD).y==2
def qhL (l:List SnI):Nat→List Int
 |0=>[]
 |i+1=>bif qH l i then qhL l i++[(i:Int)] else qhL l i
def qnr (l:List SnI):List Int:=qst (qS l) (qhL l l.length)
def qlm (l:List SnI) (V:List Int):Option Nat:=(List.range V.length).find? fun p=>!(qtm l (V.getD p 0)==qtm l (V.getD 0 0))
def qpn (l:List SnI) (V:List Int) (m:Nat):Nat:=match (List.range m).find? fun p=>!decide (qS l (V.getD p 0)<qS l (V.getD m 0)) with
 |none=>m
 |some p=>p
def qcT (l:List SnI) (V:List Int):Int:=bif V.length==0 then -1 else match qlm l V with
 |none=>qtm l (V.getD 0 0)
 |some m=>bif qpn l V m==0 then -1 else qtm l (V.getD 0 0)
def qcP (l:List SnI) (V:List Int):Int:=bif V.length==0 then 0 else match qlm l V with
 |none=>(V.length:Int)
 |some m=>(qpn l V m:Int)
/-! Distances that give that score. -/
theorem Kg (a:Int):ab a*ab a=a*a:=by
 unfold ab
 split
 ·exact Int.neg_mul_neg a a
 ·rfl
theorem Rl (x y:Int):sq2 x y=x*x+y*y:=by
 unfold sq2; rw[Kg,Kg]
theorem Kh {x y:Int} (hx:-6553600000≤x∧x≤6553600000) (hy:-6553600000≤y∧y≤6553600000):0≤lenV x y 2∧(lenV x y 2=0∨(lenV x y 2-1)*(lenV x y 2-1)<x*x+y*y)∧x*x+y*y≤lenV x y 2*lenV x y 2∧0≤lenV x y 1∧lenV x y 1*lenV x y 1≤x*x+y*y:=by
 obtain⟨d1,d2,d3,d4,d5,d6,d7⟩:=PT hx hy
 rw[d1,d2,←Rl]
 refine⟨by omega,?_,d5,d3,d4⟩
 have e2:rtN (sq2 x y) 2=rt (sq2 x y)+bif !(rt (sq2 x y)*rt (sq2 x y)==sq2 x y) then 1 else 0:=rfl
 cases hq:rt (sq2 x y)*rt (sq2 x y)==sq2 x y
 ·right
  rw[hq] at e2
  rw[e2]
  simp only[Bool.not_false,cond_true]
  rw[Int.add_sub_cancel]
  have:rt (sq2 x y)*rt (sq2 x y)≠sq2 x y:=by
   intro h; rw[h] at hq; simp at hq
  omega
 ·rw[hq] at e2
  simp only[Bool.not_true,cond_false,Int.add_zero] at e2
  rw[e2]
  rw[beq_iff_eq] at hq
  by_cases h0:rt (sq2 x y)=0
  ·exact .inl h0
  ·right
   generalize rt (sq2 x y)=r at *
   rw[←hq]
   have:(r-1)*(r-1)<r*r:=Int.lt_of_le_of_lt (Int.mul_le_mul_of_nonneg_left (show r-1≤r by omega) (by omega)) (Int.mul_lt_mul_of_pos_right (show r-1<r by omega) (by omega))
   exact this
theorem qw {a b:Int} (h:a*a<b*b) (hb:0≤b):a<b:=by
 refine Int.not_le.1 fun c=>?_
 have h1:b*b≤b*a:=Int.mul_le_mul_of_nonneg_left c hb
 have h2:b*a≤a*a:=Int.mul_le_mul_of_nonneg_right c (by omega)
 omega
theorem Rm {l:List SnI} (h:eG l=true) {d:List Int} (hd:∀k,k<l.length→(exE l (k:Int)).lo≤d.getD k 0∧d.getD k 0≤(exE l (k:Int)).hi):dsS l d∈xsc l:=by
 obtain⟨e,hb⟩:=JX h
 unfold xsc scR
 rw[e]
 refine ym (b:=aW l.length (exL l)) (fun k hk=>?_) (iR h).1
 have eb:(aW l.length (exL l)).getD k rdD=((k:Int),bLo (exL l) k,bHi (exL l) k,()):=by
  unfold aW
  rw[List.getD_eq_getElem?_getD,List.getElem?_map,List.getElem?_range hk]; rfl
 rw[eb]
 have a:=hb k hk
 have b:=hd k hk
 show bLo (exL l) k≤_∧_≤bHi (exL l) k
 omega
section
variable (l:List SnI) (F:Int)
noncomputable def qdL:List Int:=(List.range l.length).map fun k:Nat=>if qS l (k:Int)<F then (exE l (k:Int)).lo else (exE l (k:Int)).hi
theorem D5 {k:Nat} (hk:k<l.length):(qdL l F).getD k 0=if qS l (k:Int)<F then (exE l (k:Int)).lo else (exE l (k:Int)).hi:=by
 unfold qdL
 rw[List.getD_eq_getElem?_getD,List.getElem?_map,List.getElem?_range hk]; rfl
variable {l F}
theorem Tf (h:eG l=true):dsS l (qdL l F)∈xsc l:=Rm h fun k hk=>by
 rw[D5 l F hk]
 have:=tK h hk
 split<;>omega
structure QM (F M:Int):Prop where
 pos:0≤M
 up:F≤M*M
 lo:M=0∨(M-1)*(M-1)<F
theorem D6 (h:eG l=true) {M:Int} (hM:QM F M) {k:Nat} (hk:k<l.length):((qdL l F).getD k 0<M↔qS l (k:Int)<F)∧(qS l (k:Int)=F→(qdL l F).getD k 0=M):=by
 obtain⟨hx,hy⟩:=JW h hk
 obtain⟨u0,u1,u2,u3,u4⟩:=Kh hx hy
 have eS:(l.getD k snD).x*(l.getD k snD).x+(l.getD k snD).y*(l.getD k snD).y=qS l (k:Int):=rfl
 have e1:(exE l (k:Int)).lo=lenV (l.getD k snD).x (l.getD k snD).y 1:=rfl
 have e2:(exE l (k:Int)).hi=lenV (l.getD k snD).x (l.getD k snD).y 2:=rfl
 rw[D5 l F hk,e1,e2]
 rw[eS] at u1 u2 u4
 generalize lenV (l.getD k snD).x (l.getD k snD).y 1=f at *
 generalize lenV (l.getD k snD).x (l.getD k snD).y 2=c at *
 have p:=hM.pos
 have q:=hM.up
 by_cases hc:qS l (k:Int)<F
 ·rw[if_pos hc]
  exact⟨⟨fun _=>hc,fun _=>qw (by omega) p⟩,fun e=>by omega⟩
 ·rw[if_neg hc]
  refine⟨⟨fun hcM=>?_,fun e=>absurd e hc⟩,fun e=>?_⟩
  ·exfalso
   rcases hM.lo with h0|h1
   ·omega
   ·have:=qw (a:=M-1) (b:=c) (by omega) u0
    omega
  ·have a1:c≤M:=by
    rcases u1 with h0|h1
    ·omega
    ·have:=qw (a:=c-1) (b:=M) (by omega) p
     omega
   have a2:M≤c:=by
    rcases hM.lo with h0|h1
    ·omega
    ·have:=qw (a:=M-1) (b:=c) (by omega) u0
     omega
   omega
theorem Ki (h:eG l=true) {M:Int} (hM:QM F M) (hM':M≤129368065) (t:Int) (hO:∀k,k<l.length→(l.getD k snD).1=t→F≤qS l (k:Int)) (hF:M=129368065∨∃k,k<l.length∧(l.getD k snD).1=t∧qS l (k:Int)=F):dsM l (qdL l F) t l.length=M:=by
 obtain⟨h1,h2,h3⟩:=k5 l (qdL l F) t l.length
 have ge:M≤dsM l (qdL l F) t l.length:=by
  rcases h3 with e|⟨k,k1,k2,k3⟩
  ·omega
  ·have:=hO k k1 k2
   have:=(D6 h hM k1).1
   omega
 rcases hF with e|⟨k,k1,k2,k3⟩
 ·omega
 ·have:=h2 k k1 k2
  have:=(D6 h hM k1).2 k3
  omega
theorem Rn (h:eG l=true) {M:Int} (hM:QM F M) (t:Int):dsC l (qdL l F) t M l.length=(List.range l.length).countP fun k=>(l.getD k snD).1==t&&decide (qS l (k:Int)<F):=by
 unfold dsC
 refine List.countP_congr fun k hk=>?_
 have:=(D6 h hM (List.mem_range.1 hk)).1
 rw[Bool.and_eq_true,Bool.and_eq_true,decide_eq_true_eq,decide_eq_true_eq,this]
theorem qx (h:eG l=true) {M:Int} (hM:QM F M) (hM':M≤129368065) {t o:Int} (ht:(t=0∧o=1)∨(t=1∧o=0)) (hO:∀k,k<l.length→(l.getD k snD).1=o→F≤qS l (k:Int)) (hF:M=129368065∨∃k,k<l.length∧(l.getD k snD).1=o∧qS l (k:Int)=F) {n:Nat} (hn:((List.range l.length).countP fun k=>(l.getD k snD).1==t&&decide (qS l (k:Int)<F))=n)
  (hT:n=0→M=129368065∨∃k,k<l.length∧(l.getD k snD).1=t∧qS l (k:Int)=F):((bif n==0 then (-1,0,()) else (t,(n:Int),())):ScI)∈xsc l:=by
 have e:dsS l (qdL l F)=bif n==0 then (-1,0,()) else (t,(n:Int),()):=by
  have mo:=Ki h hM hM' o hO hF
  have cn:=(Rn h hM t).trans hn
  by_cases h0:n=0
  ·have mt:=Ki h hM hM' t (fun k hk et=>by
    refine Int.not_lt.1 fun hc=>?_
    have:0<n:=by
     rw[←hn]
     refine List.countP_pos_iff.2 ⟨k,List.mem_range.2 hk,?_⟩
     rw[et,decide_eq_true hc,beq_self_eq_true]; rfl
    omega) (hT h0)
   subst h0
   unfold dsS
   rcases ht with ⟨rfl,rfl⟩|⟨rfl,rfl⟩
   ·rw[mo,mt,beq_self_eq_true]; rfl
   ·rw[mo,mt,beq_self_eq_true]; rfl
  ·have lt:dsM l (qdL l F) t l.length<M:=by
    obtain⟨k,hk,hp⟩:=List.countP_pos_iff.1 (show 0<(List.range l.length).countP (fun k=>(l.getD k snD).1==t&&decide (qS l (k:Int)<F)) by omega)
    rw[Bool.and_eq_true,beq_iff_eq,decide_eq_true_eq] at hp
    have:=(k5 l (qdL l F) t l.length).2.1 k (List.mem_range.1 hk) hp.1
    have:=(D6 h hM (List.mem_range.1 hk)).1.2 hp.2
    omega
   have hn0:(n==0)=false:=beq_eq_false_iff_ne.2 h0
   unfold dsS
   rcases ht with ⟨rfl,rfl⟩|⟨rfl,rfl⟩
   ·rw[mo,cn,beq_eq_false_iff_ne.2 (show dsM l (qdL l F) 0 l.length≠M by omega),decide_eq_false (show ¬M<dsM l (qdL l F) 0 l.length by omega),hn0]; rfl
   ·rw[mo,cn,beq_eq_false_iff_ne.2 (show M≠dsM l (qdL l F) 1 l.length by omega),decide_eq_true lt,hn0]; rfl
 rw[←e]
 exact Tf h
end
/-! The indices. -/
theorem iT (l:List SnI) (x:Int):∀n,x∈qhL l n↔∃k:Nat,k<n∧qH l k=true∧x=(k:Int)
 |0=>⟨fun h=>(by cases h),fun ⟨k,h,_⟩=>absurd h (Nat.not_lt_zero k)⟩
 |n+1=>by
  rw[qhL]
  cases hq:qH l n
  ·rw[cond_false,iT l x n]
   constructor
   ·rintro⟨k,a,b,c⟩
    exact⟨k,by omega,b,c⟩
   ·rintro⟨k,a,b,c⟩
    rcases Nat.lt_succ_iff_lt_or_eq.1 a with h|rfl
    ·exact⟨k,h,b,c⟩
    ·rw[hq] at b; cases b
  ·rw[cond_true,List.mem_append,iT l x n,List.mem_singleton]
   constructor
   ·rintro (⟨k,a,b,c⟩|e)
    ·exact⟨k,by omega,b,c⟩
    ·exact⟨n,by omega,hq,e⟩
   ·rintro⟨k,a,b,c⟩
    rcases Nat.lt_succ_iff_lt_or_eq.1 a with h|rfl
    ·exact .inl ⟨k,h,b,c⟩
    ·exact .inr c
theorem tM (l:List SnI) (p:Int→Bool):∀n,(qhL l n).countP p=(List.range n).countP fun k:Nat=>qH l k&&p (k:Int)
 |0=>rfl
 |n+1=>by
  rw[qhL,List.range_succ,List.countP_append,List.countP_singleton,←tM l p n]
  cases qH l n
  ·rfl
  ·rw[cond_true,List.countP_append,List.countP_singleton]; rfl
theorem pi (l:List SnI):∀n,(qhL l n).length≤n
 |0=>Nat.le_refl _
 |n+1=>by
  have:=pi l n
  rw[qhL]
  cases qH l n
  ·show (qhL l n).length≤n+1; omega
  ·show (qhL l n++[(n:Int)]).length≤n+1
   rw[List.length_append,List.length_singleton]; omega
theorem vI {S:Int→Int} {F:Int}:∀(V:List Int) (P:Nat),P≤V.length→(∀p,p<P→S (V.getD p 0)<F)→(∀p,P≤p→p<V.length→F≤S (V.getD p 0))→V.countP (fun i=>decide (S i<F))=P
 | [],P,h,_,_=>by rw[show P=0 from Nat.le_zero.1 h]; rfl
 |x::V,0,h,_,h2=>by
  refine List.countP_eq_zero.2 fun a ha=>?_
  obtain⟨q,hq,e⟩:=List.mem_iff_getElem.1 ha
  have:=h2 q (Nat.zero_le _) hq
  rw[List.getD_eq_getElem?_getD,List.getElem?_eq_getElem hq,Option.getD_some,e] at this
  rw[decide_eq_true_eq]; omega
 |x::V,P+1,h,h1,h2=>by
  have hx:S x<F:=h1 0 (by omega)
  rw[List.countP_cons_of_pos (by rw[decide_eq_true_eq]; exact hx),vI V P (by rw[List.length_cons] at h; omega) (fun p hp=>h1 (p+1) (by omega)) (fun p hp hq=>h2 (p+1) (by omega) (by rw[List.length_cons]; omega))]
theorem Ro {l:List SnI} (h:eG l=true) (hz:∀k,k<l.length→qzn (l.getD k snD).x (l.getD k snD).y≠0):((qcT l (qnr l),qcP l (qnr l),()):ScI)∈xsc l:=by
 have hH:∀k,k<l.length→(qH l k=true↔qS l (k:Int)<16736095983108097):=fun k hk=>by
  have:=hz k hk
  have eS:(l.getD k snD).x*(l.getD k snD).x+(l.getD k snD).y*(l.getD k snD).y=qS l (k:Int):=rfl
  unfold qH
  rw[beq_iff_eq]
  unfold qzn at this ⊢
  rw[eS] at this ⊢
  split
  ·rename_i c; rw[if_pos c] at this; exact absurd rfl this
  ·rename_i c; rw[if_neg c] at this
   split
   ·rename_i c; rw[if_pos c] at this; exact absurd rfl this
   ·rename_i c; rw[if_neg c] at this
    split
    ·rename_i c; rw[if_pos c] at this; exact absurd rfl this
    ·split
     ·exact⟨fun _=>by omega,fun _=>rfl⟩
     ·split<;>exact⟨fun e=>absurd e (by decide),fun e=>by omega⟩
 have tm:∀k,k<l.length→(l.getD k snD).1=0∨(l.getD k snD).1=1:=fun k hk=>by
  have:=(iR h).2 k hk
  unfold snV at this
  simp only[Bool.and_eq_true,decide_eq_true_eq] at this
  omega
 have M1:QM 16736095983108097 129368065:=⟨by omega,by omega,.inr (by omega)⟩
 have pm:(qnr l).Perm (qhL l l.length):=lY _ _
 have rs:qRs (qS l) (qnr l) (qnr l).length:=by
  rw[pm.length_eq]; exact Rj _ _
 have hV:∀p,p<(qnr l).length→∃k:Nat,k<l.length∧qH l k=true∧(qnr l).getD p 0=(k:Int):=fun p hp=>by
  have hm:(qnr l).getD p 0∈qhL l l.length:=by
   refine pm.mem_iff.1 ?_
   rw[List.getD_eq_getElem?_getD,List.getElem?_eq_getElem hp]; exact List.getElem_mem _
  exact (iT l _ _).1 hm
 have hI:∀k,k<l.length→qH l k=true→∃p,p<(qnr l).length∧(qnr l).getD p 0=(k:Int):=fun k hk hh=>by
  have hm:(k:Int)∈qnr l:=pm.mem_iff.2 ((iT l _ _).2 ⟨k,hk,hh,rfl⟩)
  obtain⟨p,hp,e⟩:=List.mem_iff_getElem.1 hm
  exact⟨p,hp,by rw[List.getD_eq_getElem?_getD,List.getElem?_eq_getElem hp]; exact e⟩
 have cntV:∀F,(qnr l).countP (fun i=>decide (qS l i<F))=(List.range l.length).countP fun k:Nat=>qH l k&&decide (qS l (k:Int)<F):=fun F=>by
  rw[pm.countP_eq,tM]
 have eT:∀k:Nat,qtm l (k:Int)=(l.getD k snD).1:=fun k=>rfl
 generalize hVe:qnr l=V at *
 unfold qcT qcP
 by_cases h0:V.length=0
 ·rw[h0]
  have:=qx (F:=16736095983108097) h M1 (Int.le_refl _) (t:=0) (o:=1) (.inl ⟨rfl,rfl⟩) (fun k hk _=>Int.not_lt.1 fun c=>by
   obtain⟨p,hp,_⟩:=hI k hk ((hH k hk).2 c)
   omega) (.inl rfl) (n:=0) (List.countP_eq_zero.2 fun k hk hp=>by
   rw[Bool.and_eq_true,decide_eq_true_eq] at hp
   obtain⟨p,hp,_⟩:=hI k (List.mem_range.1 hk) ((hH k (List.mem_range.1 hk)).2 hp.2)
   omega) (fun _=>.inl rfl)
  exact this
 ·obtain⟨k0,hk0,hh0,e0⟩:=hV 0 (by omega)
  have hT:=tm k0 hk0
  rw[beq_eq_false_iff_ne.2 h0,cond_false,cond_false,e0,eT]
  generalize hTT:(l.getD k0 snD).1=T at *
  have hto:(T=0∧1-T=1)∨(T=1∧1-T=0):=by omega
  cases hl:qlm l V with
  |none=>
   have all:∀p,p<V.length→qtm l (V.getD p 0)=T:=fun p hp=>by
    have:=List.find?_eq_none.1 hl p (List.mem_range.2 hp)
    rw[e0,eT,hTT] at this
    simpa using this
   have hO:∀k,k<l.length→(l.getD k snD).1=1-T→(16736095983108097:Int)≤qS l (k:Int):=fun k hk e=>Int.not_lt.1 fun c=>by
    obtain⟨p,hp,ep⟩:=hI k hk ((hH k hk).2 c)
    have:=all p hp
    rw[ep,eT] at this
    omega
   have hn:((List.range l.length).countP fun k=>(l.getD k snD).1==T&&decide (qS l (k:Int)<16736095983108097))=V.length:=by
    have c1:=cntV 16736095983108097
    rw[vI V V.length (Nat.le_refl _) (fun p hp=>by
     obtain⟨k,hk,hh,e⟩:=hV p hp
     rw[e]; exact (hH k hk).1 hh) (fun p a b=>by omega)] at c1
    rw[c1]
    refine List.countP_congr fun k hk=>?_
    have hk:=List.mem_range.1 hk
    rw[Bool.and_eq_true,Bool.and_eq_true,decide_eq_true_eq,beq_iff_eq,hH k hk]
    constructor
    ·exact fun a=>⟨a.2,a.2⟩
    ·refine fun a=>⟨?_,a.2⟩
     rcases tm k hk with e|e
     ·have:=hO k hk; omega
     ·have:=hO k hk; omega
   have:=qx (F:=16736095983108097) h M1 (Int.le_refl _) (t:=T) (o:=1-T) hto hO (.inl rfl) hn (fun e=>by omega)
   rw[beq_eq_false_iff_ne.2 h0] at this
   exact this
  |some m=>
   have hm:=List.mem_range.1 (List.mem_of_find?_eq_some hl)
   have hmT:qtm l (V.getD m 0)≠T:=by
    have:=List.find?_some hl
    rw[e0,eT,hTT] at this
    simpa using this
   have bef:∀p,p<m→qtm l (V.getD p 0)=T:=fun p hp=>by
    have:=(List.find?_range_eq_some.1 hl).2.2 p hp
    rw[e0,eT,hTT] at this
    simpa using this
   obtain⟨km,hkm,hhm,em⟩:=hV m hm
   rw[em,eT] at hmT
   have hkmO:(l.getD km snD).1=1-T:=by have:=tm km hkm; omega
   obtain⟨hx,hy⟩:=JW h hkm
   obtain⟨u0,u1,u2,_,_⟩:=Kh hx hy
   have eF:(l.getD km snD).x*(l.getD km snD).x+(l.getD km snD).y*(l.getD km snD).y=qS l (km:Int):=rfl
   rw[eF] at u1 u2
   have hF1:=(hH km hkm).1 hhm
   have hMle:lenV (l.getD km snD).x (l.getD km snD).y 2≤129368064:=by
    rcases u1 with e|e
    ·omega
    ·have:=qw (a:=lenV (l.getD km snD).x (l.getD km snD).y 2-1) (b:=129368064) (by omega) (by omega)
     omega
   have hM:QM (qS l (km:Int)) (lenV (l.getD km snD).x (l.getD km snD).y 2):=⟨u0,u2,u1⟩
   generalize lenV (l.getD km snD).x (l.getD km snD).y 2=M at *
   have rise:∀p,m≤p→p<V.length→qS l (km:Int)≤qS l (V.getD p 0):=fun p a b=>by
    rcases Nat.lt_or_ge m p with c|c
    ·rw[←em]; exact rs m p c b
    ·rw[show p=m by omega,em]; exact Int.le_refl _
   have hO:∀k,k<l.length→(l.getD k snD).1=1-T→qS l (km:Int)≤qS l (k:Int):=fun k hk e=>by
    by_cases c:qH l k=true
    ·obtain⟨p,hp,ep⟩:=hI k hk c
     rcases Nat.lt_or_ge p m with a|a
     ·have:=bef p a
      rw[ep,eT] at this
      omega
     ·rw[←ep]; exact rise p a hp
    ·have:¬qS l (k:Int)<16736095983108097:=fun q=>c ((hH k hk).2 q)
     omega
   have hP:qpn l V m≤m∧(∀p,p<qpn l V m→qS l (V.getD p 0)<qS l (km:Int))∧(qpn l V m<m→qS l (km:Int)≤qS l (V.getD (qpn l V m) 0)):=by
    unfold qpn
    rw[em]
    cases hf:(List.range m).find? fun p=>!decide (qS l (V.getD p 0)<qS l (km:Int)) with
    |none=>
     refine⟨Nat.le_refl _,fun p hp=>?_,fun a=>absurd a (Nat.lt_irrefl _)⟩
     have:=List.find?_eq_none.1 hf p (List.mem_range.2 hp)
     simpa using this
    |some q=>
     refine⟨Nat.le_of_lt (List.mem_range.1 (List.mem_of_find?_eq_some hf)),fun p hp=>?_,fun _=>?_⟩
     ·have:=(List.find?_range_eq_some.1 hf).2.2 p hp
      simpa using this
     ·have:=List.find?_some hf
      simpa using this
   show ((bif qpn l V m==0 then -1 else T,((qpn l V m:Nat):Int),()):ScI)∈xsc l
   generalize qpn l V m=P at *
   have hn:((List.range l.length).countP fun k=>(l.getD k snD).1==T&&decide (qS l (k:Int)<qS l (km:Int)))=P:=by
    have c1:=cntV (qS l (km:Int))
    rw[vI V P (by omega) hP.2.1 (fun p a b=>by
     rcases Nat.lt_or_ge P m with c|c
     ·have:=hP.2.2 c
      rcases Nat.lt_or_ge P p with d|d
      ·have:=rs P p d b; omega
      ·rw[show p=P by omega]; exact this
     ·exact rise p (by omega) b)] at c1
    rw[c1]
    refine List.countP_congr fun k hk=>?_
    have hk:=List.mem_range.1 hk
    rw[Bool.and_eq_true,Bool.and_eq_true,decide_eq_true_eq,beq_iff_eq,hH k hk]
    constructor
    ·exact fun a=>⟨by omega,a.2⟩
    ·refine fun a=>⟨?_,a.2⟩
     rcases tm k hk with e|e
     ·have:=hO k hk; omega
     ·have:=hO k hk; omega
   have:=qx (F:=qS l (km:Int)) h hM (by omega) (t:=T) (o:=1-T) hto hO (.inr ⟨km,hkm,hkmO,rfl⟩) hn (fun e=>.inr ⟨k0,hk0,hTT,by
    have a:=hO km hkm hkmO
    have b:qS l (k0:Int)≤qS l (km:Int):=by
     rw[←e0,←em]
     rcases Nat.eq_zero_or_pos m with c|c
     ·rw[c]; exact Int.le_refl _
     ·exact rs 0 m c hm
    have c:qS l (km:Int)≤qS l (k0:Int):=by
     rw[←e0]
     subst e
     rcases Nat.lt_or_ge 0 m with d|d
     ·exact hP.2.2 d
     ·have:m=0:=by omega
      exact rise 0 (by omega) (by omega)
    omega⟩)
   by_cases hp0:P=0
   ·subst hp0; exact this
   ·rw[beq_eq_false_iff_ne.2 hp0] at this ⊢; exact this
/-! No team counts more than 8. -/
theorem lZ {σ α:Type} {f:σ→Option (LRes σ α)} {K:Nat→σ→Option α} {x y:σ} {b:Nat} (h:f x=some (.brk b y)) {N:Nat} (hN:0<N):ag (af N f x) K=K b y:=by
 cases N with
 |zero=>omega
 |succ N=>simp only[af,h]; rfl
def qIx (l:List SnI) (V:List Int):Prop:=∀x∈V,0≤x∧x<(l.length:Int)
theorem kg {l:List SnI} {V:List Int} (h:qIx l V) {p:Nat} (hp:p<V.length):0≤V.getD p 0∧V.getD p 0<(l.length:Int):=by
 refine h _ ?_
 rw[List.getD_eq_getElem?_getD,List.getElem?_eq_getElem hp]; exact List.getElem_mem _
theorem D7 {α:Type} (l:List SnI) (c:Int):∀(j:Nat) (V:List Int) (N:Nat),j<V.length→V.length≤16→qIx l V→j<N→ag (af N (qnI 0) (V,(j:Int),l,())) (fun id y=>if id=2 then (some (.cont (y.1,c,y.2.2.1,())):Option (LRes QnI α)) else none)=some (.cont (qin (qsW l) j V,c,l,()))
 |0,V,N,_,_,_,hN=>by
  refine (lZ (b:=2) (y:=(V,0,l,())) ?_ hN).trans rfl
  unfold qnI
  rw[show decide ((((0:Nat):Int),l,()).1>0)=false from decide_eq_false (by show ¬((0:Nat):Int)>0; omega)]
  rfl
 |j+1,V,0,_,_,_,hN=>absurd hN (Nat.not_lt_zero _)
 |j+1,V,N+1,hj,hl,hx,hN=>by
  have w1:IntKind.i64.wrap (((j+1:Nat):Int)-1)=(j:Int):=by rw[aP _ (by omega)]; omega
  have g1:=kg hx hj
  have g2:=kg hx (show j<V.length by omega)
  have hf:qnI (α:=LRes QnI α) 0 (V,((j+1:Nat):Int),l,())=bif decide (qsW l (V.getD (j+1) 0)<qsW l (V.getD j 0)) then some (.cont ((V.set (j+1) (V.getD j 0)).set j (V.getD (j+1) 0),(j:Int),l,())) else some (.brk 2 (V,((j+1:Nat):Int),l,())):=by
   unfold qnI
   simp only[w1,Int.toNat_natCast,List.length_set]
   rw[decide_eq_true (show ((j+1:Nat):Int)>0 by omega),cond_true,if_pos ⟨by omega,by omega⟩,if_pos ⟨by omega,by omega⟩,if_pos g1,if_pos g2]
   cases decide (qsW l (V.getD (j+1) 0)<qsW l (V.getD j 0))
   ·rw[cond_false,cond_false]
    cases decide (qsW l (V.getD (j+1) 0)>qsW l (V.getD j 0))<;>rfl
   ·rw[cond_true,cond_true,if_pos ⟨by omega,by omega⟩,if_pos ⟨by omega,by omega⟩,if_pos ⟨by omega,by omega⟩,if_pos ⟨by omega,by omega⟩]
  rw[qin]
  cases hc:decide (qsW l (V.getD (j+1) 0)<qsW l (V.getD j 0))
  ·rw[hc] at hf
   exact lZ (b:=2) (y:=(V,((j+1:Nat):Int),l,())) hf (by omega)
  ·rw[hc] at hf
   have pm:=qv (V:=V) (i:=j+1) (j:=j) hj (by omega)
   have ih:=D7 (α:=α) l c j ((V.set (j+1) (V.getD j 0)).set j (V.getD (j+1) 0)) N (by rw[pm.length_eq]; omega) (by rw[pm.length_eq]; exact hl) (fun x hm=>hx x (pm.mem_iff.1 hm)) (by omega)
   refine Eq.trans ?_ ih
   conv=>lhs; unfold af
   rw[hf]
   rfl
theorem Rp {l:List SnI} {V:List Int} (hx:qIx l V) {i:Nat} (h:i<V.length):qIx l (qis (qsW l) i V):=fun x hm=>hx x ((ic _ i V h).mem_iff.1 hm)
theorem N7 {α:Type} {l:List SnI} {V:List Int} (hl:V.length≤16) (hx:qIx l V) (K:Nat→QnI→Option α):∃j,ag (af 40 (qnO 40 0 (V.length:Int)) (V,1,l,())) K=K 0 (qst (qsW l) V,j,l,()):=by
 refine⟨((V.length-1+1:Nat):Int),?_⟩
 refine aB (f:=qnO 40 0 (V.length:Int)) (fun i:Nat=>(qis (qsW l) i V,((i+1:Nat):Int),l,())) (V.length-1) (fun i hi=>?_) ?_ (by omega)
 ·have hl':=D4 (qsW l) i V (by omega)
  have e:=D7 (α:=α) l (IntKind.i64.wrap (((i+1:Nat):Int)+1)) (i+1) (qis (qsW l) i V) 40 (by omega) (by omega) (Rp hx (by omega)) (by omega)
  unfold qnO
  simp only[]
  rw[decide_eq_true (show ((i+1:Nat):Int)<(V.length:Int) by omega),cond_true]
  refine e.trans ?_
  rw[gB (n:=i+1+1) (by have:maxLen=9223372036854775807:=rfl; omega) |> (fun h=>(show IntKind.i64.wrap (((i+1:Nat):Int)+1)=((i+1+1:Nat):Int) from h))]
  rfl
 ·unfold qnO
  simp only[]
  rw[decide_eq_false (show ¬((V.length-1+1:Nat):Int)<(V.length:Int) by omega)]
  rfl
theorem N8 {α:Type} {l:List SnI} (hl:l.length≤16) (hs:∀k,k<l.length→eK (l.getD k snD).x (l.getD k snD).y=true) (K:Nat→Int × List Int × Unit→Option α):ag (af 40 (qnA l) (0,[],())) K=K 0 ((l.length:Int),qhL l l.length,()):=by
 have hroom:room≥10000:=by decide
 have hmx:maxLen=9223372036854775807:=rfl
 refine aB (f:=qnA l) (fun i:Nat=>((i:Int),qhL l i,())) l.length (fun i hi=>?_) ?_ (by omega)
 ·have:=pi l i
  unfold qnA
  simp only[aR hi,cond_true,aH hi,if_pos,and_self,Int.toNat_natCast,ao hi (by omega),hs i hi,List.length_singleton]
  rw[if_pos (by omega),qhL]
  show (bif qH l i then _ else _)=_
  cases qH l i<;>rfl
 ·unfold qnA
  simp only[ap,cond_false]
theorem tN {S S':Int→Int}:∀j (V:List Int),j<V.length→(∀x∈V,S x=S' x)→qin S j V=qin S' j V
 |0,V,_,_=>rfl
 |j+1,V,hj,h=>by
  have m:∀p,p<V.length→S (V.getD p 0)=S' (V.getD p 0):=fun p hp=>h _ (by
   rw[List.getD_eq_getElem?_getD,List.getElem?_eq_getElem hp]; exact List.getElem_mem _)
  have pm:=qv (V:=V) (i:=j+1) (j:=j) hj (by omega)
  rw[qin,qin,m (j+1) hj,m j (by omega),tN j _ (by rw[pm.length_eq]; omega) fun x hx=>h x (pm.mem_iff.1 hx)]
theorem tO {S S':Int→Int}:∀i (V:List Int),i<V.length→(∀x∈V,S x=S' x)→qis S i V=qis S' i V
 |0,V,_,_=>rfl
 |i+1,V,hi,h=>by
  rw[qis,qis,tO i V (by omega) h]
  exact tN _ _ (by rw[D4 S' i V (by omega)]; exact hi) fun x hx=>h x ((ic S' i V (by omega)).mem_iff.1 hx)
theorem Gl {S S':Int→Int} (V:List Int) (h:∀x∈V,S x=S' x):qst S V=qst S' V:=by
 unfold qst
 rcases Nat.eq_zero_or_pos V.length with e|e
 ·rw[e]; rfl
 ·exact tO _ V (by omega) h
theorem Kj (l:List SnI) {k:Nat} (h:qH l k=true):qsW l (k:Int)=qS l (k:Int):=by
 unfold qsW qS
 rw[Int.toNat_natCast]
 unfold qH at h
 generalize (l.getD k snD).x=x at *
 generalize (l.getD k snD).y=y at *
 have hz:=vG x
 have hx:-155648000≤x∧x≤155648000:=by
  unfold qzn at h
  by_cases h1:qsz x+9502720≥155648000
  ·rw[if_pos h1] at h; exact absurd h (by decide)
  ·omega
 have hy:-419495936≤y∧y≤419495936:=by
  unfold qzn at h
  by_cases h1:qsz x+9502720≥155648000
  ·rw[if_pos h1] at h; exact absurd h (by decide)
  ·rw[if_neg h1] at h
   by_cases h2:y-9502720>119865344
   ·rw[if_pos h2] at h; exact absurd h (by decide)
   ·rw[if_neg h2] at h
    by_cases h3:y-9502720≤-419495936
    ·rw[if_pos h3] at h; exact absurd h (by decide)
    ·omega
 have s1:=nq hx
 have s2:=nq hy
 rw[k6 (x*x) (by omega),k6 (y*y) (by omega),k6 (x*x+y*y) (by omega)]
theorem Kk (l:List SnI):qIx l (qhL l l.length):=fun x hx=>by
 obtain⟨k,hk,_,rfl⟩:=(iT l x _).1 hx
 omega
theorem Rq (l:List SnI):qst (qsW l) (qhL l l.length)=qnr l:=Gl _ fun x hx=>by
 obtain⟨k,hk,hh,rfl⟩:=(iT l x _).1 hx
 exact Kj l hh
def vJ (l:List SnI):Bool:=decide (l.length≤16)&&l.all fun s=>eK s.x s.y
noncomputable def N9:Fsp:=fun _ args k=>match args with
 | [.ro (.recd (.cons (.int .i64) (.cons (.int .i64) (.cons (.recd (.cons (.int .i64) (.cons (.int .i64) .nil))) .nil)))) l]=>bif vJ l then k (.ret (.ro (.int .i64) (qnr l))) else none
 |_=>none
theorem Kl:aD Ke:=ae Rk kf
theorem Rr {l:List SnI} (hB:vJ l=true):l.length≤16∧∀k,k<l.length→eK (l.getD k snD).x (l.getD k snD).y=true:=by
 unfold vJ at hB
 rw[Bool.and_eq_true,decide_eq_true_eq] at hB
 refine⟨hB.1,fun k hk=>List.all_eq_true.1 hB.2 (l.getD k snD) ?_⟩
 rw[List.getD_eq_getElem?_getD,List.getElem?_eq_getElem hk]; exact List.getElem_mem _
theorem Rs (l:List SnI) (hB:vJ l=true):am real tab ((twY Ke de).env real tab 40 30) 40 Tryz.f42 AOut [.ro (.recd (.cons (.int .i64) (.cons (.int .i64) (.cons (.recd (.cons (.int .i64) (.cons (.int .i64) .nil))) .nil)))) l] some=some (.ret (.ro (.int .i64) (qnr l))):=by
 obtain⟨hl,hs⟩:=Rr hB
 refine (Kf 40 0 AOut l some).trans ?_
 have hv:=pi l l.length
 refine (N8 hl hs _).trans ?_
 rw[if_pos rfl]
 refine (lZ (b:=0) (y:=(0,20,())) ?_ (by decide)).trans ?_
 ·unfold qnY
  simp only[]
  rw[decide_eq_false (by omega)]
  rfl
 rw[if_pos rfl]
 obtain⟨j,e⟩:=N7 (α:=AOut) (l:=l) (V:=qhL l l.length) (by omega) (Kk l) _
 refine e.trans ?_
 rw[if_pos rfl]
 refine (lZ (b:=2) (y:=(0,20,20,())) ?_ (by decide)).trans ?_
 ·unfold qnX
  simp only[]
  rw[decide_eq_false (by omega)]
  rfl
 rw[if_pos rfl]
 exact congrArg (fun V=>some (AOut.ret (AVal.ro (.int .i64) V))) (Rq l)
theorem Oa:FspOk Tryz.prog 42 N9:=aq Kl a8 ⟨Tryz.func42,fun _ _=>by kernel_rfl⟩ (by intro α args k; unfold N9; split<;>simp only[ak,Option.bind_some,Option.bind_none]) fun args out hSm hEq=>by
 unfold N9 at hEq
 split at hEq
 ·rename_i l
  cases hB:vJ l
  ·rw[hB] at hEq; cases hEq
  rw[hB,cond_true] at hEq
  exact⟨40,30,(Rs l hB).trans hEq⟩
 ·cases hEq
/-! Check. -/
noncomputable def Km:FuncId→Option Fsp:=fun g=>if g=96 then some N5 else vH g
theorem Gm:aD Km:=ae N6 kf
def Gn {α:Type} (l:List SnI) (R:Option α) (x:Int × NmM × Unit):Option (LRes (Int × NmM × Unit) α):=
 bif decide (x.1<(l.length:Int)) then
  if 0≤x.1∧x.1<(l.length:Int) then
   bif decide (0≤(l.getD x.1.toNat snD).1) then
    bif !decide ((l.getD x.1.toNat snD).1≤1) then finL R
    else bif decide (0≤(l.getD x.1.toNat snD).2.1) then
     bif !decide ((l.getD x.1.toNat snD).2.1≤7) then finL R
     else bif !eK (l.getD x.1.toNat snD).x (l.getD x.1.toNat snD).y then finL R
     else bif eK (l.getD x.1.toNat snD).x (l.getD x.1.toNat snD).y then
      bif qzn (l.getD x.1.toNat snD).x (l.getD x.1.toNat snD).y==0 then finL R
      else bif (bF bB .bool ((l.getD x.1.toNat snD).1,(l.getD x.1.toNat snD).2.1,()) x.2.1).getD false then finL R
      else some (.cont (IntKind.i64.wrap (x.1+1),c8 bB .bool ((l.getD x.1.toNat snD).1,(l.getD x.1.toNat snD).2.1,()) true x.2.1,()))
     else none
    else finL R
   else finL R
  else none
 else some (.brk 0 (x.1,x.2.1,()))
set_option maxRecDepth 100000 in
theorem Kn (N n0:Nat) (α:Type) (l:List SnI) (k:AOut→Option α):am real tab ((twY Km de).env real tab N (n0+30)) N Tryz.f41 α [.ro (.recd (.cons (.int .i64) (.cons (.int .i64) (.cons (.recd (.cons (.int .i64) (.cons (.int .i64) .nil))) .nil)))) l] k =
 bif decide ((l.length:Int)>16) then k (b1 false) else ag (af N (Gn l (k (b1 false))) (0,[],())) fun id _=>if id=0 then k (b1 (decide (qvX l<0))) else none:=by
 kernel_rfl
def qkV (s:SnI):Bool:=((decide (0≤s.1)&&decide (s.1≤1))&&(decide (0≤s.2.1)&&decide (s.2.1≤7)))&&(eK s.x s.y&&!(qzn s.x s.y==0))
def tP (l:List SnI) (i:Nat):Bool:=!qkV (l.getD i snD) || (List.range i).any fun k=>snN (l.getD k snD) (l.getD i snD)
def nr (l:List SnI):Bool:=decide (l.length≤16)&&(!((List.range l.length).any (tP l))&&decide (qvX l<0))
theorem Ob {α:Type} (l:List SnI) (R:Option α) {i:Nat} (hi:i<l.length) (hl:l.length≤maxLen):Gn l R ((i:Int),nmM l i,())=bif tP l i then finL R else some (.cont (((i+1:Nat):Int),nmM l (i+1),())):=by
 unfold Gn tP qkV
 simp only[aR hi,cond_true,aH hi,if_pos,and_self,decide_true,Int.toNat_natCast,ao hi hl,qa l (l.getD i snD) i]
 cases decide (0≤(l.getD i snD).1)
 ·rfl
 cases decide ((l.getD i snD).1≤1)
 ·rfl
 cases decide (0≤(l.getD i snD).2.1)
 ·rfl
 cases decide ((l.getD i snD).2.1≤7)
 ·rfl
 cases eK (l.getD i snD).x (l.getD i snD).y
 ·rfl
 cases qzn (l.getD i snD).x (l.getD i snD).y==0<;>rfl
theorem Gp {α:Type} (l:List SnI) (k:AOut→Option α):(bif decide ((l.length:Int)>16) then k (b1 false) else ag (af 20 (Gn l (k (b1 false))) (0,[],())) fun id _=>if id=0 then k (b1 (decide (qvX l<0))) else none)=k (b1 (nr l)):=by
 unfold nr
 by_cases h:l.length≤16
 ·have hmx:l.length≤maxLen:=by have:maxLen=9223372036854775807:=rfl; omega
  rw[decide_eq_false (show ¬(l.length:Int)>16 by omega),cond_false,decide_eq_true h,Bool.true_and]
  refine (eD (f:=Gn l (k (b1 false))) (fun i:Nat=>((i:Int),nmM l i,())) l.length (tP l) (k (b1 false)) (fun i hi=>Ob l _ hi hmx) (y:=((l.length:Int),nmM l l.length,())) (b:=0) ?_ (by omega)).trans ?_
  ·unfold Gn
   simp only[ap,cond_false]
  ·cases (List.range l.length).any (tP l)<;>rfl
 ·rw[decide_eq_true (show (l.length:Int)>16 by omega),decide_eq_false h]; rfl
noncomputable def Oc:Fsp:=fun _ args k=>match args with
 | [.ro (.recd (.cons (.int .i64) (.cons (.int .i64) (.cons (.recd (.cons (.int .i64) (.cons (.int .i64) .nil))) .nil)))) l]=>k (b1 (nr l))
 |_=>none
theorem Od:FspOk Tryz.prog 41 Oc:=aq Gm a8 ⟨Tryz.func41,fun _ _=>by kernel_rfl⟩ (by intro α args k; unfold Oc; split<;>rfl) fun args out hSm hEq=>by
 unfold Oc at hEq
 split at hEq
 ·rename_i l
  exact⟨20,30,((Kn 20 0 AOut l some).trans (Gp l some)).trans hEq⟩
 ·cases hEq
theorem Ko {l:List SnI} (h:nr l=true):l.length≤16∧∀k,k<l.length→eK (l.getD k snD).x (l.getD k snD).y=true∧qzn (l.getD k snD).x (l.getD k snD).y≠0:=by
 unfold nr at h
 simp only[Bool.and_eq_true,decide_eq_true_eq,Bool.not_eq_true',List.any_eq_false] at h
 refine⟨h.1,fun k hk=>?_⟩
 have:=h.2.1 k (List.mem_range.2 hk)
 unfold tP qkV at this
 rw[Bool.or_eq_true,not_or] at this
 have h2:=this.1
 simp only[Bool.not_eq_true',Bool.not_eq_false,Bool.and_eq_true,beq_eq_false_iff_ne] at h2
 exact h2.2
noncomputable def PW:FuncId→Option Fsp:=fun g=>
 if g=41 then some Oc else
 if g=42 then some N9 else
 np g
theorem Kp:aD PW:=
 ae Od <|
 ae Oa <|
 ib
abbrev QcI:=Int × List SnI × Int × Unit
def Kq {α:Type} (l:List SnI) (V:List Int) (m:Int) (x:Int × Unit):Option (LRes (Int × Unit) α):=
 bif decide (x.1<m) then
  if 0≤x.1∧x.1<(V.length:Int) then
   if 0≤V.getD x.1.toNat 0∧V.getD x.1.toNat 0<(l.length:Int) then
    bif decide (qsW l (V.getD x.1.toNat 0)<qsW l (V.getD m.toNat 0)) then some (.cont (IntKind.i64.wrap (x.1+1),())) else some (.brk 0 (x.1,()))
   else none
  else none
 else some (.brk 0 (x.1,()))
def Oe {α:Type} (N:Nat) (V:List Int) (k:AOut→Option α) (x:QcI):Option (LRes QcI α):=
 bif decide (x.1<(V.length:Int)) then
  if 0≤x.1∧x.1<(V.length:Int) then
   if 0≤V.getD x.1.toNat 0∧V.getD x.1.toNat 0<(x.2.1.length:Int) then
    bif (x.2.1.getD (V.getD x.1.toNat 0).toNat snD).1 != x.2.2.1 then
     finL (bif decide (x.1<0) then k (.ret (.tup [.int .i64 x.2.2.1,.int .i64 (V.length:Int),.int .i64 0])) else
      if 0≤x.1∧x.1<(V.length:Int) then
       if 0≤V.getD x.1.toNat 0∧V.getD x.1.toNat 0<(x.2.1.length:Int) then
        ag (af N (Kq x.2.1 V x.1) (0,())) fun id y=>if id=0 then
         bif y.1==0 then k (.ret (.tup [.int .i64 (-1),.int .i64 0,.int .i64 0])) else k (.ret (.tup [.int .i64 x.2.2.1,.int .i64 y.1,.int .i64 0]))
        else none
       else none
      else none)
    else some (.cont (IntKind.i64.wrap (x.1+1),x.2.1,x.2.2.1,()))
   else none
  else none
 else some (.brk 0 (x.1,x.2.1,x.2.2.1,()))
def Og {α:Type} (N:Nat) (l:List SnI) (V:List Int) (k:AOut→Option α):Option α:=
 bif (V.length:Int)==0 then k (.ret (.tup [.int .i64 (-1),.int .i64 0,.int .i64 0])) else
  if 0≤(0:Int)∧(0:Int)<(V.length:Int) then
   if 0≤V.getD (Int.toNat 0) 0∧V.getD (Int.toNat 0) 0<(l.length:Int) then
    ag (af N (Oe N V k) (0,l,(l.getD (V.getD (Int.toNat 0) 0).toNat snD).1,())) fun id y=>if id=0 then k (.ret (.tup [.int .i64 y.2.2.1,.int .i64 (V.length:Int),.int .i64 0])) else none
   else none
  else none
set_option maxRecDepth 100000 in
theorem Kr (N n0:Nat) (α:Type) (l:List SnI) (k:AOut→Option α):am real tab ((twY PW de).env real tab N (n0+30)) N Tryz.f12 α [.ro (.recd (.cons (.int .i64) (.cons (.int .i64) (.cons (.recd (.cons (.int .i64) (.cons (.int .i64) .nil))) .nil)))) l] k =
 bif !nr l then k (.ret (.tup [.int .i64 0,.int .i64 0,.int .i64 2])) else bif vJ l then Og N l (qnr l) k else none:=by kernel_rfl
theorem Ks (l:List SnI) (V:List Int) (m:Nat):qpn l V m≤m∧(∀p,p<qpn l V m→decide (qS l (V.getD p 0)<qS l (V.getD m 0))=true)∧(qpn l V m<m→decide (qS l (V.getD (qpn l V m) 0)<qS l (V.getD m 0))=false):=by
 unfold qpn
 cases hf:(List.range m).find? fun p=>!decide (qS l (V.getD p 0)<qS l (V.getD m 0)) with
 |none=>
  refine⟨Nat.le_refl _,fun p hp=>?_,fun a=>absurd a (Nat.lt_irrefl _)⟩
  have:=List.find?_eq_none.1 hf p (List.mem_range.2 hp)
  rw[Bool.not_eq_true',Bool.not_eq_false] at this
  exact this
 |some q=>
  refine⟨Nat.le_of_lt (List.mem_range.1 (List.mem_of_find?_eq_some hf)),fun p hp=>?_,fun _=>?_⟩
  ·have:=(List.find?_range_eq_some.1 hf).2.2 p hp
   rw[Bool.not_eq_true',Bool.not_eq_false'] at this
   exact this
  ·have:=List.find?_some hf
   rw[Bool.not_eq_true'] at this
   exact this
section
variable {l:List SnI} {V:List Int} (hx:qIx l V) (hl:V.length≤16) (hW:∀p,p<V.length→qsW l (V.getD p 0)=qS l (V.getD p 0))
include hx hl hW
theorem Oh {α:Type} {m:Nat} (hm:m<V.length) (K:Nat→Int × Unit→Option α):ag (af 40 (Kq l V (m:Int)) (0,())) K=K 0 ((qpn l V m:Int),()):=by
 have hmx:maxLen=9223372036854775807:=rfl
 obtain⟨h1,h2,h3⟩:=Ks l V m
 refine aB (f:=Kq l V (m:Int)) (fun i:Nat=>((i:Int),())) (qpn l V m) (fun i hi=>?_) ?_ (by omega)
 ·have a:=h2 i hi
  unfold Kq
  simp only[aR (show i<m by omega),cond_true,aH (show i<V.length by omega),if_pos,and_self,Int.toNat_natCast,hW i (by omega),hW m hm,a,ao (show i<m by omega) (by omega)]
  rw[if_pos (kg hx (by omega))]
 ·unfold Kq
  rcases Nat.lt_or_ge (qpn l V m) m with c|c
  ·have a:=h3 c
   simp only[aR c,cond_true,aH (show qpn l V m<V.length by omega),if_pos,and_self,Int.toNat_natCast,hW _ (show qpn l V m<V.length by omega),hW m hm,a,cond_false]
   rw[if_pos (kg hx (by omega))]
  ·have e:qpn l V m=m:=by omega
   rw[e]
   simp only[ap,cond_false]
theorem Oi {α:Type} (k:AOut→Option α):Og 40 l V k=k (.ret (.tup [.int .i64 (qcT l V),.int .i64 (qcP l V),.int .i64 0])):=by
 have hmx:maxLen=9223372036854775807:=rfl
 unfold Og qcT qcP
 by_cases h0:V.length=0
 ·rw[h0]; rfl
 rw[beq_eq_false_iff_ne.2 h0,beq_eq_false_iff_ne.2 (show (V.length:Int)≠0 by omega),cond_false,cond_false,cond_false,if_pos ⟨by omega,by omega⟩]
 have g0:=kg hx (show 0<V.length by omega)
 rw[show Int.toNat 0=0 from rfl,if_pos g0]
 refine (k7 (f:=Oe 40 V k) (fun i:Nat=>((i:Int),l,qtm l (V.getD 0 0),())) V.length (fun p=>!(qtm l (V.getD p 0)==qtm l (V.getD 0 0))) (b:=0) (y:=((V.length:Int),l,qtm l (V.getD 0 0),())) (fun m=>bif (qpn l V m:Int)==0 then k (.ret (.tup [.int .i64 (-1),.int .i64 0,.int .i64 0])) else k (.ret (.tup [.int .i64 (qtm l (V.getD 0 0)),.int .i64 (qpn l V m:Int),.int .i64 0]))) (fun i hi=>?_) ?_ (by omega)).trans ?_
 ·have gi:=kg hx hi
  have e:=Oh hx hl hW hi (fun id y=>if id=0 then bif y.1==0 then k (.ret (.tup [.int .i64 (-1),.int .i64 0,.int .i64 0])) else k (.ret (.tup [.int .i64 (qtm l (V.getD 0 0)),.int .i64 y.1,.int .i64 0])) else none)
  unfold Oe
  simp only[aR hi,cond_true,aH hi,if_pos,and_self,Int.toNat_natCast,ao hi (show V.length≤maxLen by omega),decide_eq_false (show ¬(i:Int)<0 by omega),cond_false]
  rw[if_pos gi,if_pos gi,e,if_pos rfl]
  rfl
 ·unfold Oe
  simp only[ap,cond_false]
 ·unfold qlm
  cases (List.range V.length).find? fun p=>!(qtm l (V.getD p 0)==qtm l (V.getD 0 0)) with
  |none=>rfl
  |some m=>
   show (bif (qpn l V m:Int)==0 then _ else _)=k (.ret (.tup [.int .i64 (bif qpn l V m==0 then -1 else _),.int .i64 (qpn l V m:Int),.int .i64 0]))
   by_cases hp:qpn l V m=0
   ·rw[hp]; rfl
   ·rw[beq_eq_false_iff_ne.2 hp,beq_eq_false_iff_ne.2 (show (qpn l V m:Int)≠0 by omega)]; rfl
end
theorem Oj (l:List SnI):(qnr l).length≤l.length:=by
 have:=(lY (qS l) (qhL l l.length)).length_eq
 have:=pi l l.length
 show (qst (qS l) (qhL l l.length)).length≤_
 omega
theorem Rt (l:List SnI):qIx l (qnr l):=fun x hx=>Kk l x ((lY (qS l) (qhL l l.length)).mem_iff.1 hx)
theorem Tg (l:List SnI) {p:Nat} (hp:p<(qnr l).length):qsW l ((qnr l).getD p 0)=qS l ((qnr l).getD p 0):=by
 have hm:(qnr l).getD p 0∈qhL l l.length:=(lY (qS l) (qhL l l.length)).mem_iff.1 (by
  show (qnr l).getD p 0∈qnr l
  rw[List.getD_eq_getElem?_getD,List.getElem?_eq_getElem hp]; exact List.getElem_mem _)
 obtain⟨k,_,hh,e⟩:=(iT l _ _).1 hm
 rw[e]; exact Kj l hh
def qnT (l:List SnI):Int:=bif nr l then qcT l (qnr l) else 0
def qnP (l:List SnI):Int:=bif nr l then qcP l (qnr l) else 0
def qnE (l:List SnI):Int:=bif nr l then 0 else 2
noncomputable def Ok:Fsp:=fun _ args k=>match args with
 | [.ro (.recd (.cons (.int .i64) (.cons (.int .i64) (.cons (.recd (.cons (.int .i64) (.cons (.int .i64) .nil))) .nil)))) l]=>k (.ret (.tup [.int .i64 (qnT l),.int .i64 (qnP l),.int .i64 (qnE l)]))
 |_=>none
theorem Ru {α:Type} (l:List SnI) (k:AOut→Option α):(bif !nr l then k (.ret (.tup [.int .i64 0,.int .i64 0,.int .i64 2])) else bif vJ l then Og 40 l (qnr l) k else none)=k (.ret (.tup [.int .i64 (qnT l),.int .i64 (qnP l),.int .i64 (qnE l)])):=by
 unfold qnT qnP qnE
 cases hk:nr l
 ·rfl
 ·obtain⟨h1,h2⟩:=Ko hk
  have hB:vJ l=true:=by
   unfold vJ
   rw[decide_eq_true h1,Bool.true_and,List.all_eq_true]
   intro s hs
   obtain⟨i,hi,e⟩:=List.mem_iff_getElem.1 hs
   have:=(h2 i hi).1
   rw[List.getD_eq_getElem?_getD,List.getElem?_eq_getElem hi,Option.getD_some,e] at this
   exact this
  rw[hB]
  exact Oi (Rt l) (by have:=Oj l; omega) (fun p hp=>Tg l hp) k
theorem Ol:FspOk Tryz.prog 12 Ok:=aq Kp a8 ⟨Tryz.func12,fun _ _=>by kernel_rfl⟩ (by intro α args k; unfold Ok; split<;>rfl) fun args out hSm hEq=>by
 unfold Ok at hEq
 split at hEq
 ·rename_i l
  exact⟨40,30,((Kr 40 0 AOut l some).trans (Ru l some)).trans hEq⟩
 ·cases hEq
theorem Rv {l:List SnI} (h:eG l=true) (he:qnE l=0):((qnT l,qnP l,()):ScI)∈xsc l:=by
 have hk:nr l=true:=by
  unfold qnE at he
  cases hk:nr l
  ·rw[hk] at he; exact absurd he (by decide)
  ·rfl
 unfold qnT qnP
 rw[hk]
 exact Ro h fun k hk'=>((Ko hk).2 k hk').2
noncomputable def Rw:FuncId→Option Fsp:=fun g=>
 if g=7 then some Dw else
 if g=5 then some Dv else
 if g=9 then some yq else
 if g=8 then some D1 else
 if g=10 then some yn else
 if g=11 then some uP else
 if g=12 then some Ok else
 FO g
theorem Om:aD Rw:=
 ae I1 <|
 ae IY <|
 ae yr <|
 ae J4 <|
 ae yo <|
 ae sM <|
 ae Ol <|
 o9
def twC {α:Type} (eE eJ eS lo hi cT cP cE:Int→Int) (tm:Int) (R:Option α) (x:Int × Int × Int × Unit):Option (LRes (Int × Int × Int × Unit) α):=
 bif decide (x.2.2.1<49) then
  bif eE x.2.2.1 != 0 then finL R else bif eJ x.2.2.1 != 0 then finL R else bif eS x.2.2.1 != 0 then finL R else bif decide (lo x.2.2.1>hi x.2.2.1) then finL R else
  bif cT x.2.2.1==IntKind.i64.wrap (1-tm) then
   bif cE x.2.2.1==0 then
    bif decide (IntKind.i64.wrap (0-cP x.2.2.1)<lo x.2.2.1) then finL R else bif decide (IntKind.i64.wrap (0-cP x.2.2.1)>hi x.2.2.1) then finL R else
    some (.cont (if lo x.2.2.1<x.1 then lo x.2.2.1 else x.1,if x.2.1<hi x.2.2.1 then hi x.2.2.1 else x.2.1,IntKind.i64.wrap (x.2.2.1+1),()))
   else some (.cont (if lo x.2.2.1<x.1 then lo x.2.2.1 else x.1,if x.2.1<hi x.2.2.1 then hi x.2.2.1 else x.2.1,IntKind.i64.wrap (x.2.2.1+1),()))
  else
   bif cE x.2.2.1==0 then
    bif decide (cP x.2.2.1<lo x.2.2.1) then finL R else bif decide (cP x.2.2.1>hi x.2.2.1) then finL R else
    some (.cont (if lo x.2.2.1<x.1 then lo x.2.2.1 else x.1,if x.2.1<hi x.2.2.1 then hi x.2.2.1 else x.2.1,IntKind.i64.wrap (x.2.2.1+1),()))
   else some (.cont (if lo x.2.2.1<x.1 then lo x.2.2.1 else x.1,if x.2.1<hi x.2.2.1 then hi x.2.2.1 else x.2.1,IntKind.i64.wrap (x.2.2.1+1),()))
 else some (.brk 0 (x.1,x.2.1,x.2.2.1,()))
def Kt {α:Type} (N:Nat) (S G:Bool) (E lo hi eE eJ eS eL eH cT cP cE:Int→Int) (c:List Int) (d tm:Int) (k:AOut→Option α):Option α:=
 bif S then k (b1 true) else bif decide ((c.length:Int)>60) then k (b1 true) else
 bif woJ G E c d tm != 0 then bif woA G E lo c d tm==0 then bif woZ G E hi c d tm==0 then k (b1 true) else k (b1 false) else k (b1 false) else
 ag (af N (twC eE eJ eS eL eH cT cP cE tm (k (b1 false))) (100,-100,0,())) fun id y=>if id=0 then
  bif decide (IntKind.i64.wrap (y.1*65536)≤woA G E lo c d tm) then bif decide (woA G E lo c d tm≤woZ G E hi c d tm) then bif decide (woZ G E hi c d tm≤IntKind.i64.wrap (y.2.1*65536)) then k (b1 true) else k (b1 false) else k (b1 false) else k (b1 false)
 else none
set_option maxRecDepth 100000 in
theorem Ku (N n0:Nat) (α:Type) (cx cy sd w h:Int) (pb po:List Int) (fl ke sw be we:Int) (el:Int) (l:List BdI) (t n x y u v s:Int) (b:List BrI) (p q:Int) (c:List Int) (d tm:Int) (k:AOut→Option α):am real tab ((twY Rw de).env real tab N (n0+14)) N Tryz.f3 α [.agg [.int .i64 cx,.int .i64 cy,.int .i64 sd,.int .i64 w,.int .i64 h,.ro (.int .i64) pb,.ro (.int .i64) po,.int .i64 fl,.int .i64 ke,.int .i64 sw,.int .i64 be,.int .i64 we,.int .i64 el,.ro (.recd (.cons (.int .i64) (.cons (.int .i64) (.cons (.recd (.cons (.recd (.cons (.int .i64) (.cons (.int .i64) .nil))) (.cons (.recd (.cons (.int .i64) (.cons (.int .i64) .nil))) (.cons (.int .i64) .nil)))) (.cons .bool .nil))))) l],.agg [.int .i64 t,.int .i64 n,.int .i64 x,.int .i64 y,.int .i64 u,.int .i64 v,.int .i64 s,.ro (.recd (.cons (.int .i64) (.cons (.int .i64) (.cons (.int .i64) .nil)))) b,.int .i64 p,.int .i64 q],.ro (.int .i64) c,.int .i64 d,.int .i64 tm] k =
 Kt N (M0 cx cy sd w h pb po fl ke sw be we el l t n x y u v s b p q 12 2) (nl cx cy sd w h pb po fl ke sw be we el l (ccB t n x y u v s b p q)) (fun m=>enE cx cy sd w h pb
 po fl ke sw be we el l t n x y u v s b p q m) (fun m=>kfL kmN (kpV tm (enR cx cy sd w h pb po fl ke sw be we el l t n x y u v s b p q m))) (fun m=>kfL kmX (kpV tm (enR cx cy sd
 w h pb po fl ke sw be we el l t n x y u v s b p q m))) (fun m=>epE cx cy sd w h pb po fl ke sw be we el l t n x y u v s b p q m tm) (fun m=>enJ cx cy sd w h pb po fl ke sw be we
 el l t n x y u v s b p q m) (fun m=>dw (enW cx cy sd w h pb po fl ke sw be we el l t n x y u v s b p q m)) (fun m=>epP kmN cx cy sd w h pb po fl ke sw be we el l t n x y u v s
 b p q m tm) (fun m=>epP kmX cx cy sd w h pb po fl ke sw be we el l t n x y u v s b p q m tm) (fun m=>qnT (iE (bz (enW cx cy sd w h pb po fl ke sw be we el l t n x y u v s b
 p q m)) (dI (enW cx cy sd w h pb po fl ke sw be we el l t n x y u v s b p q m)))) (fun m=>qnP (iE (bz (enW cx cy sd w h pb po fl ke sw be we el l t n x y u v s b p q m))
 (dI (enW cx cy sd w h pb po fl ke sw be we el l t n x y u v s b p q m)))) (fun m=>qnE (iE (bz (enW cx cy sd w h pb po fl ke sw be we el l t n x y u v s b p q m)) (dI (enW
 cx cy sd w h pb po fl ke sw be we el l t n x y u v s b p q m)))) c d tm k:=by kernel_rfl
theorem On {V:List Int} {x:Int} (h:x∈V):kfL kmN V≤x∧x≤kfL kmX V:=by
 obtain⟨i,hi,e⟩:=List.mem_iff_getElem.1 h
 have:=qu V (V.length-1) i (by omega)
 rw[List.getD_eq_getElem?_getD,List.getElem?_eq_getElem hi,Option.getD_some,e] at this
 exact this
theorem Rx {R:List BdI} (tm:Int) (hs:bz R=true) (he:qnE (iE (bz R) (dI R))=0) {q:Int} (hq:q=sgT tm (qnT (iE (bz R) (dI R)),qnP (iE (bz R) (dI R)),())):kfL kmN (kpV tm R)≤q∧q≤kfL kmX (kpV tm R):=by
 refine On ?_
 rw[hq]
 refine List.mem_map.2 ⟨_,?_,rfl⟩
 refine Rv ?_ he
 unfold iE
 rw[hs]
 exact JZ hs
structure TworOk (lo hi eE eJ eS eL eH cT cP cE:Int→Int) (tm:Int):Prop where
 e:∀i:Nat,i<49→eE (i:Int)=0∧eJ (i:Int)=0∧eS (i:Int)=0∧eL (i:Int)=lo (i:Int)∧eH (i:Int)=hi (i:Int)
 b:∀i:Nat,i<49→-16≤lo (i:Int)∧lo (i:Int)≤hi (i:Int)∧hi (i:Int)≤16
 c:∀i:Nat,i<49→cE (i:Int)=0→∀q,q=sgT tm (cT (i:Int),cP (i:Int),())→lo (i:Int)≤q∧q≤hi (i:Int)
theorem Oo {α:Type} {lo hi eE eJ eS eL eH cT cP cE:Int→Int} {tm:Int} (h:TworOk lo hi eE eJ eS eL eH cT cP cE tm) (R:Option α) (K:Nat→Int × Int × Int × Unit→Option α):ag (af 60 (twC eE eJ eS eL eH cT cP cE tm R) (100,-100,0,())) K=K 0 (mqN eL 49,mqX eH 49,((49:Nat):Int),()):=by
 refine aB (f:=twC eE eJ eS eL eH cT cP cE tm R) (fun i:Nat=>(mqN eL i,mqX eH i,(i:Int),())) 49 (fun i hi_=>?_) ?_ (by omega)
 ·obtain⟨e1,e2,e3,e4,e5⟩:=h.e i hi_
  have hb:=h.b i hi_
  have hc:=h.c i hi_
  have fin:∀q,q=sgT tm (cT (i:Int),cP (i:Int),())→(bif cE (i:Int)==0 then bif decide (q<eL (i:Int)) then finL R else bif decide (q>eH (i:Int)) then finL R else some (.cont (if eL (i:Int)<mqN eL i then eL (i:Int) else mqN eL i,if mqX eH i<eH (i:Int) then eH (i:Int) else mqX eH i,IntKind.i64.wrap ((i:Int)+1),())) else some (.cont (if eL (i:Int)<mqN eL i then eL (i:Int) else mqN eL i,if mqX eH i<eH (i:Int) then eH (i:Int) else mqX eH i,IntKind.i64.wrap ((i:Int)+1),())))=some (.cont (mqN eL (i+1),mqX eH (i+1),((i+1:Nat):Int),())):=fun q hq=>by
   rw[ao hi_ (by decide)]
   by_cases hz:cE (i:Int)=0
   ·have:=hc hz q hq
    rw[hz,decide_eq_false (show ¬q<eL (i:Int) by omega),decide_eq_false (show ¬q>eH (i:Int) by omega)]; rfl
   ·rw[beq_eq_false_iff_ne.2 hz]; rfl
  unfold twC
  simp only[]
  rw[decide_eq_true (show (i:Int)<49 by omega),cond_true,e1,e2,e3,decide_eq_false (show ¬eL (i:Int)>eH (i:Int) by omega),show ((0:Int) != 0)=false from rfl,cond_false,cond_false,cond_false,cond_false]
  cases ht:cT (i:Int)==IntKind.i64.wrap (1-tm)
  ·exact fin _ (by unfold sgT; rw[ht]; rfl)
  ·exact fin _ (by unfold sgT; rw[ht]; rfl)
 ·unfold twC
  simp only[]
  rw[decide_eq_false (show ¬((49:Nat):Int)<49 by omega),cond_false]
theorem Bl {α:Type} {S G:Bool} {E lo hi eE eJ eS eL eH cT cP cE:Int→Int} {c:List Int} {d tm:Int} (H:G=true→(0≤tm∧tm≤1)→(∀i:Nat,i<49→E (i:Int)=0)→TworOk lo hi eE eJ eS eL eH cT cP cE tm) (k:AOut→Option α):Kt 60 S G E lo hi eE eJ eS eL eH cT cP cE c d tm k=k (b1 true):=by
 unfold Kt
 cases S
 case true=>rfl
 cases decide ((c.length:Int)>60)
 case true=>rfl
 rw[cond_false,cond_false]
 by_cases hJ0:woJ G E c d tm=0
 case neg=>
  have hJ':(woJ G E c d tm==0)=false:=beq_eq_false_iff_ne.2 hJ0
  rw[show (woJ G E c d tm != 0)=true from by rw[bne,hJ']; rfl]
  unfold woA woZ
  rw[hJ']; rfl
 have hV:woV G c d tm=true:=by
  cases hv:woV G c d tm
  ·unfold woJ at hJ0; rw[hv] at hJ0; exact absurd (show (2:Int)=0 from hJ0) (by decide)
  ·rfl
 have hE:∀i:Nat,i<49→E (i:Int)=0:=by
  have:=hJ0
  unfold woJ at this; rw[hV] at this; exact Te.1 this
 obtain⟨hG,hC,hd,htm⟩:=Re.1 hV
 have h:=H hG htm hE
 rw[show (woJ G E c d tm != 0)=false from by rw[hJ0]; rfl,cond_false,Oo h,if_pos rfl]
 have b1':∀i:Nat,i<49→-16≤eL (i:Int)∧eL (i:Int)≤16:=fun i hi=>by have:=h.b i hi; rw[(h.e i hi).2.2.2.1]; omega
 have b2':∀i:Nat,i<49→-16≤eH (i:Int)∧eH (i:Int)≤16:=fun i hi=>by have:=h.b i hi; rw[(h.e i hi).2.2.2.2]; omega
 have qN:=J6 b1' 49 (Nat.le_refl _)
 have qX:=J7 b2' 49 (Nat.le_refl _)
 have qL:∀i:Nat,i<49→mqN eL 49≤lo (i:Int)∧hi (i:Int)≤mqX eH 49:=fun i hi=>⟨by rw[←(h.e i hi).2.2.2.1]; exact qN.2 i hi,by rw[←(h.e i hi).2.2.2.2]; exact qX.2 i hi⟩
 have q1:=qN.1
 have q2:=qX.1
 clear qN qX b1' b2'
 simp only[]
 generalize mqN eL 49=L at *
 generalize mqX eH 49=M at *
 obtain⟨w1,v1⟩:=D3 (f:=lo) fun i hi_=>by have:=h.b i hi_; omega
 obtain⟨w2,v2⟩:=D3 (f:=hi) fun i hi_=>by have:=h.b i hi_; omega
 have b:=Gi hC w1 w2 hd (L:=L*65536) (M:=M*65536) fun i hi_=>by
  have a:=h.b i hi_
  have z:=qL i hi_
  rw[v1 i hi_,v2 i hi_]; omega
 unfold woA woZ
 rw[hJ0,aP (L*65536) (by omega),aP (M*65536) (by omega)]
 simp only[beq_self_eq_true,cond_true]
 rw[decide_eq_true b.1,decide_eq_true b.2.1,decide_eq_true b.2.2]
 rfl
section
variable (cx cy sd w h:Int) (pb po:List Int) (fl ke sw be we:Int) (el:Int) (l:List BdI) (t n x y u v s:Int) (b:List BrI) (p q:Int) (c:List Int) (d tm:Int)
theorem Ry (hG:nl cx cy sd w h pb po fl ke sw be we el l (ccB t n x y u v s b p q)=true) (htm:0≤tm∧tm≤1) (hE:∀i:Nat,i<49→enE cx cy sd w h pb po fl ke sw be we el l t n x y u v s b p q (i:Int)=0):TworOk (fun m=>kfL kmN (kpV tm (enR cx cy sd w h pb po fl ke sw be we el l t n x y u v s b p q m))) (fun m=>kfL kmX (kpV tm (enR cx cy sd w h pb po fl ke sw be we el l t n x y u v s b p q m))) (fun m=>epE cx cy sd w h pb po fl ke sw be we el l t n x y u v s b p q m tm) (fun m=>enJ cx cy sd w h pb po fl ke sw be we el l t n x y u v s b p q m) (fun m=>dw (enW cx cy sd w h pb po fl ke sw be we el l t n x y u v s b p q m)) (fun m=>epP kmN cx cy sd w h pb po fl ke sw be we el l t n x y u v s b p q m tm) (fun m=>epP kmX cx cy sd w h pb po fl ke sw be we el l t n x y u v s b p q m tm) (fun m=>qnT (iE (bz (enW cx cy sd w h pb po fl ke sw be we el l t n x y u v s b p q m)) (dI (enW cx cy sd w h pb po fl ke sw be we el l t n x y u v s b p q m)))) (fun m=>qnP (iE (bz (enW cx cy sd w h pb po fl ke sw be we el l t n x y u v s b p q m)) (dI (enW cx cy sd w h pb po fl ke sw be we el l t n x y u v s b p q m)))) (fun m=>qnE (iE (bz (enW cx cy sd w h pb po fl ke sw be we el l t n x y u v s b p q m)) (dI (enW cx cy sd w h pb po fl ke sw be we el l t n x y u v s b p q m)))) tm:=by
 have hV:∀i:Nat,i<49→enV cx cy sd w h pb po fl ke sw be we el l t n x y u v s b p q (i:Int)=true:=fun i hi=>by
  unfold enV
  rw[hG,decide_eq_true (show (0:Int)≤(i:Int) by omega),decide_eq_true (show (i:Int)≤48 by omega)]; rfl
 have eE:∀i:Nat,i<49→epE cx cy sd w h pb po fl ke sw be we el l t n x y u v s b p q (i:Int) tm=0:=fun i hi=>by
  unfold epE epV
  rw[hV i hi,hE i hi,decide_eq_true htm.1,decide_eq_true htm.2]; rfl
 have eJ:∀i:Nat,i<49→enJ cx cy sd w h pb po fl ke sw be we el l t n x y u v s b p q (i:Int)=0:=fun i hi=>by
  unfold enJ; rw[hV i hi,hE i hi]; rfl
 have eW:∀i:Nat,i<49→enW cx cy sd w h pb po fl ke sw be we el l t n x y u v s b p q (i:Int)=enR cx cy sd w h pb po fl ke sw be we el l t n x y u v s b p q (i:Int):=fun i hi=>by
  unfold enW; rw[eJ i hi]; rfl
 have hs:∀i:Nat,i<49→bz (enR cx cy sd w h pb po fl ke sw be we el l t n x y u v s b p q (i:Int))=true:=fun i hi=>(J0 (hE i hi)).1
 refine⟨fun i hi=>⟨eE i hi,eJ i hi,?_,?_,?_⟩,fun i hi=>Rg _ _,fun i hi he q' hq=>?_⟩
 ·show dw (enW cx cy sd w h pb po fl ke sw be we el l t n x y u v s b p q (i:Int))=0
  rw[eW i hi]; unfold dw; rw[hs i hi]; rfl
 ·show epP kmN cx cy sd w h pb po fl ke sw be we el l t n x y u v s b p q (i:Int) tm=_
  unfold epP; rw[eE i hi]; rfl
 ·show epP kmX cx cy sd w h pb po fl ke sw be we el l t n x y u v s b p q (i:Int) tm=_
  unfold epP; rw[eE i hi]; rfl
 ·have he':qnE (iE (bz (enW cx cy sd w h pb po fl ke sw be we el l t n x y u v s b p q (i:Int))) (dI (enW cx cy sd w h pb po fl ke sw be we el l t n x y u v s b p q (i:Int))))=0:=he
  have hq':q'=sgT tm (qnT (iE (bz (enW cx cy sd w h pb po fl ke sw be we el l t n x y u v s b p q (i:Int))) (dI (enW cx cy sd w h pb po fl ke sw be we el l t n x y u v s b p q (i:Int)))),qnP (iE (bz (enW cx cy sd w h pb po fl ke sw be we el l t n x y u v s b p q (i:Int))) (dI (enW cx cy sd w h pb po fl ke sw be we el l t n x y u v s b p q (i:Int)))),()):=hq
  rw[eW i hi] at he' hq'
  exact Rx tm (hs i hi) he' hq'
theorem Kv:am real tab ((twY Rw de).env real tab 60 14) 60 Tryz.f3 AOut [.agg [.int .i64 cx,.int .i64 cy,.int .i64 sd,.int .i64 w,.int .i64 h,.ro (.int .i64) pb,.ro (.int .i64) po,.int .i64 fl,.int .i64 ke,.int .i64 sw,.int .i64 be,.int .i64 we,.int .i64 el,.ro (.recd (.cons (.int .i64) (.cons (.int .i64) (.cons (.recd (.cons (.recd (.cons (.int .i64) (.cons (.int .i64) .nil))) (.cons (.recd (.cons (.int .i64) (.cons (.int .i64) .nil))) (.cons (.int .i64) .nil)))) (.cons .bool .nil))))) l],.agg [.int .i64 t,.int .i64 n,.int .i64 x,.int .i64 y,.int .i64 u,.int .i64 v,.int .i64 s,.ro (.recd (.cons (.int .i64) (.cons (.int .i64) (.cons (.int .i64) .nil)))) b,.int .i64 p,.int .i64 q],.ro (.int .i64) c,.int .i64 d,.int .i64 tm] some=some (b1 true):=
 (Ku 60 0 AOut cx cy sd w h pb po fl ke sw be we el l t n x y u v s b p q c d tm some).trans (Bl (c:=c) (d:=d) (tm:=tm) (fun hG htm hE=>Ry cx cy sd w h pb po fl ke sw be we el l t n x y u v s b p q tm hG htm hE) some)
end
noncomputable def Th:List AVal→Option AOut
 | [.agg [.int .i64 cx,.int .i64 cy,.int .i64 sd,.int .i64 w,.int .i64 h,.ro (.int .i64) pb,.ro (.int .i64) po,.int .i64 fl,.int .i64 ke,.int .i64 sw,.int .i64 be,.int .i64 we,.int .i64 el,.ro (.recd (.cons (.int .i64) (.cons (.int .i64) (.cons (.recd (.cons (.recd (.cons (.int .i64) (.cons (.int .i64) .nil))) (.cons (.recd (.cons (.int .i64) (.cons (.int .i64) .nil))) (.cons (.int .i64) .nil)))) (.cons .bool .nil))))) l],.agg [.int .i64 t,.int .i64 n,.int .i64 x,.int .i64 y,.int .i64 u,.int .i64 v,.int .i64 s,.ro (.recd (.cons (.int .i64) (.cons (.int .i64) (.cons (.int .i64) .nil)))) b,.int .i64 p,.int .i64 q],.ro (.int .i64) c,.int .i64 d,.int .i64 tm]=>some (b1 true)
 |_=>none
theorem Rz:FspOk Tryz.prog 3 (gP Th):=aq Om a8 ⟨Tryz.func3,fun _ _=>by kernel_rfl⟩ (nK _) fun args out hSm hq=>by
 replace hq:=ll hq
 unfold Th at hq
 split at hq
 ·rename_i cx cy sd w h pb po fl ke sw be we el l t n x y u v s b p q c d tm
  cases hq
  exact⟨60,14,Kv cx cy sd w h pb po fl ke sw be we el l t n x y u v s b p q c d tm⟩
 ·cases hq
end Go.Proofs.YtpgfncncgjihpaaGreat
namespace Go.Proofs.YtpgfncncgjihpaaGreat
def D8:Sh:=.recd (.cons (.int .i64) (.cons (.int .i64) .nil))
def Ti:Sh:=.recd (.cons D8 (.cons (.int .i64) (.cons (.int .i64) (.cons (.int .i64) (.cons (.sl (.int .i64)) (.cons (.sl (.int .i64)) .nil))))))
def Tj:Sh:=.recd (.cons (.int .i64) (.cons (.int .i64) (.cons (.int .i64) (.cons (.int .i64) (.cons (.int .i64) .nil)))))
def PX:Sh:=.recd (.cons D8 (.cons D8 (.cons (.int .i64) .nil)))
def Tk:Sh:=.recd (.cons (.int .i64) (.cons (.int .i64) (.cons (.int .i64) .nil)))
def Tl:Sh:=.recd (.cons (.int .i64) (.cons (.int .i64) (.cons PX (.cons .bool .nil))))
end Go.Proofs.YtpgfncncgjihpaaGreat
