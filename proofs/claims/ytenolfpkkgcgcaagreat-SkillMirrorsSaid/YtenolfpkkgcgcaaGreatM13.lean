/- Parts of the proof, in build order. -/
import Derived.Test.YtenolfpkkgcgcaaGreatM12
import Derived.Test.YtenolfpkkgcgcaaGreatM10
import Derived.Test.YtenolfpkkgcgcaaGreatM8
import Derived.Test.YtenolfpkkgcgcaaGreatM11
namespace Go.Proofs.YtenolfpkkgcgcaaGreat
open Go.RowKit
def sgm (i:Nat):Nat:=i / 7*7+6-i % 7
theorem dw {i:Nat} (h:i<49):sgm i<49∧sgm (sgm i)=i∧sgm i / 7=i / 7∧sgm i % 7=6-i % 7:=by unfold sgm; omega
theorem QW {q p:Int} (hq:-3≤q∧q≤3) (hp:0≤p∧p≤8192000):-24576000≤q*p∧q*p≤24576000:=by
 rcases (show q=-3∨q=-2∨q=-1∨q=0∨q=1∨q=2∨q=3 by omega) with rfl|rfl|rfl|rfl|rfl|rfl|rfl<;>omega
theorem DY {u p:Int} (hu:-70368744177664≤u∧u≤70368744177664) (hp:0≤p∧p≤8192000) {i:Nat}:thU u p (i:Int)=u+((i:Int) % 7-3)*p:=by
 unfold thU
 rw[Int.tmod_eq_emod_of_nonneg (show (0:Int)≤(i:Int) by omega),az ((i:Int) % 7-3) (by omega)]
 have:=QW (q:=(i:Int) % 7-3) (by omega) hp
 rw[az (((i:Int) % 7-3)*p) (by omega),az _ (by omega)]
theorem NJ {u p:Int} (hu:-70368744177664≤u∧u≤70368744177664) (hp:0≤p∧p≤8192000) {i:Nat} (hi:i<49):thU (-u) p (i:Int)=-thU u p ((sgm i:Nat):Int):=by
 rw[DY (by omega) hp,DY hu hp]
 have h:=dw hi
 have e:((sgm i:Nat):Int) % 7-3=-((i:Int) % 7-3):=by omega
 rw[e,Int.neg_mul]
 omega
theorem NK (v q:Int) {i:Nat} (hi:i<49):thV v q (i:Int)=thV v q ((sgm i:Nat):Int):=by
 unfold thV
 have h:=dw hi
 have e:((sgm i:Nat):Int).tdiv 7=(i:Int).tdiv 7:=by
  rw[Int.tdiv_eq_ediv_of_nonneg (by omega),Int.tdiv_eq_ediv_of_nonneg (by omega)]; omega
 rw[e]
theorem QX {t n x y u v s p q:Int} (hu:-70368744177664≤u∧u≤70368744177664) (hp:0≤p∧p≤8192000) {i:Nat} (hi:i<49):thB t n (-x) y (-u) v (-s) p q (i:Int)=mb (thB t n x y u v s p q ((sgm i:Nat):Int)):=by
 show cbB t n (-x) y (thU (-u) p (i:Int)) (thV v q (i:Int)) (-s)=_
 rw[NJ hu hp hi,NK v q hi]
 rfl
theorem DZ (b:BdI):db [mb b]=db [b]:=by
 unfold db
 rw[show [mb b]=mbS [b] from rfl,kg]
theorem Pz {t n x y u v s:Int} {b:List BrI} {p q:Int} (h:ccB t n x y u v s b p q=true):BodIs t n x y u v s∧(0≤p∧p≤8192000)∧0≤q∧q≤8192000:=by
 unfold ccB at h
 simp only[Bool.and_eq_true,decide_eq_true_eq] at h
 obtain⟨h1,_,_,h2,h3⟩:=h
 refine⟨?_,h2,h3⟩
 have:br [cbB t n x y u v s]=true:=by
  have h1:=eq_of_beq h1
  unfold db at h1
  cases hs:br [cbB t n x y u v s]
  ·rw[hs] at h1; exact absurd h1 (by decide)
  ·rfl
 exact dL.1 (pO this _ List.mem_cons_self).1
theorem NL (u:Int):(-u==0)=(u==0):=by
 rw[Bool.eq_iff_iff,beq_iff_eq,beq_iff_eq]; omega
theorem QY (t n x y u v s:Int) (b:List BrI) (p q:Int):ccB t n (-x) y (-u) v (-s) b p q=ccB t n x y u v s b p q:=by
 unfold ccB
 rw[show cbB t n (-x) y (-u) v (-s)=mb (cbB t n x y u v s) from rfl,DZ,NL]
theorem QZ (t n:Int) (l:List BdI):A2 t n (mbS l)=A2 t n l:=by
 unfold A2
 rw[List.any_map]; rfl
theorem NM (l:List BdI) (t n:Int):enB (mbS l) t n=enB l t n:=by
 unfold enB
 rw[kg,u4,QZ,show (mbS l).length=l.length from List.length_map _]
section
variable (fl ke sw be we el V:Int) {l:List BdI} {t n x y u v s:Int} {b:List BrI} {p q:Int}
theorem Q2 (hic:b7 (-6553600000) (-6553600000) 6553600000 3 3 (List.replicate 9 V) (List.replicate 9 0)=true) (hg:bM fl ke sw be we=true) (hc:ccB t n x y u v s b p q=true) {i:Nat} (hi:i<49) (hE:enE (-6553600000) (-6553600000) 6553600000 3 3 (List.replicate 9 V) (List.replicate 9 0) fl ke sw be we el l t n x y u v s b p q ((sgm i:Nat):Int)=0) :
  enE (-6553600000) (-6553600000) 6553600000 3 3 (List.replicate 9 V) (List.replicate 9 0) fl ke sw be we el (mbS l) t n (-x) y (-u) v (-s) b p q (i:Int)=0∧enR (-6553600000) (-6553600000) 6553600000 3 3 (List.replicate 9 V) (List.replicate 9 0) fl ke sw be we el (mbS l) t n (-x) y (-u) v (-s) b p q (i:Int)=mbS (enR (-6553600000) (-6553600000) 6553600000 3 3 (List.replicate 9 V) (List.replicate 9 0) fl ke sw be we el l t n x y u v s b p q ((sgm i:Nat):Int)):=by
 obtain⟨hb,hp,hq⟩:=Pz hc
 obtain⟨r1,r2,r3,r4,r5⟩:=Bc hE
 have eT:thB t n (-x) y (-u) v (-s) p q (i:Int)=mb (thB t n x y u v s p q ((sgm i:Nat):Int)):=QX (by have:=hb.sx; omega) hp hi
 have eL:enL (mbS l) t n (-x) y (-u) v (-s) p q (i:Int)=mbS (enL l t n x y u v s p q ((sgm i:Nat):Int)):=by
  show mbS l++[thB t n (-x) y (-u) v (-s) p q (i:Int)]=(l++[thB t n x y u v s p q ((sgm i:Nat):Int)]).map mb
  rw[eT,List.map_append]; rfl
 have el':(mbS l).length=l.length:=List.length_map _
 have eC:enC (-6553600000) (-6553600000) 6553600000 3 3 (List.replicate 9 V) (List.replicate 9 0) fl ke sw be we el (mbS l) t n (-x) y (-u) v (-s) b p q (i:Int)=enC (-6553600000) (-6553600000) 6553600000 3 3 (List.replicate 9 V) (List.replicate 9 0) fl ke sw be we el l t n x y u v s b p q ((sgm i:Nat):Int):=by
  unfold enC uZ Mj
  rw[eL,kg,el',show (mbS (enL l t n x y u v s p q ((sgm i:Nat):Int))).length=(enL l t n x y u v s p q ((sgm i:Nat):Int)).length from List.length_map _]
 have hC:enC (-6553600000) (-6553600000) 6553600000 3 3 (List.replicate 9 V) (List.replicate 9 0) fl ke sw be we el l t n x y u v s b p q ((sgm i:Nat):Int)=true:=by
  cases h:enC (-6553600000) (-6553600000) 6553600000 3 3 (List.replicate 9 V) (List.replicate 9 0) fl ke sw be we el l t n x y u v s b p q ((sgm i:Nat):Int)
  ·rw[h] at r3; exact absurd (show (2:Int)=0 from r3) (by decide)
  ·rfl
 have hs:br (enL l t n x y u v s p q ((sgm i:Nat):Int))=true:=by
  have:=hC
  unfold enC uZ Mj at this
  simp only[Bool.and_eq_true] at this
  exact this.2.2.1
 have eO:enO (-6553600000) (-6553600000) 6553600000 3 3 (List.replicate 9 V) (List.replicate 9 0) fl ke sw be we el (mbS l) t n (-x) y (-u) v (-s) b p q (i:Int)=mbO (enO (-6553600000) (-6553600000) 6553600000 3 3 (List.replicate 9 V) (List.replicate 9 0) fl ke sw be we el l t n x y u v s b p q ((sgm i:Nat):Int)):=by
  unfold enO
  rw[eL,el']
  refine IU (tk:=jj (-6553600000) (-6553600000) 6553600000 3 3 (List.replicate 9 V) (List.replicate 9 0) fl ke sw be we b (l.length:Int) el) (fun t S hS=>?_) (fun t S r hS hr=>(pZ (S':=r.1) (H:=r.2) hS hr).1) 6000 0 _ [] hs
  exact MQ (c:=Hc fl ke sw V 0) (d:=Hd be 0) (fun x y hp=>IM fl ke sw be we V 0 hp hic hg) (fun x y hp=>IO fl ke sw be we V 0 hp hic hg) hS
 have eR:enR (-6553600000) (-6553600000) 6553600000 3 3 (List.replicate 9 V) (List.replicate 9 0) fl ke sw be we el (mbS l) t n (-x) y (-u) v (-s) b p q (i:Int)=mbS (enR (-6553600000) (-6553600000) 6553600000 3 3 (List.replicate 9 V) (List.replicate 9 0) fl ke sw be we el l t n x y u v s b p q ((sgm i:Nat):Int)):=by
  unfold enR
  rw[eC,eO,hC]
  cases enO (-6553600000) (-6553600000) 6553600000 3 3 (List.replicate 9 V) (List.replicate 9 0) fl ke sw be we el l t n x y u v s b p q ((sgm i:Nat):Int)<;>rfl
 refine⟨?_,eR⟩
 have h3:oS (enC (-6553600000) (-6553600000) 6553600000 3 3 (List.replicate 9 V) (List.replicate 9 0) fl ke sw be we el (mbS l) t n (-x) y (-u) v (-s) b p q (i:Int)) (enO (-6553600000) (-6553600000) 6553600000 3 3 (List.replicate 9 V) (List.replicate 9 0) fl ke sw be we el (mbS l) t n (-x) y (-u) v (-s) b p q (i:Int))=0:=by
  refine Eq.trans ?_ r3
  rw[eC,eO]
  cases enO (-6553600000) (-6553600000) 6553600000 3 3 (List.replicate 9 V) (List.replicate 9 0) fl ke sw be we el l t n x y u v s b p q ((sgm i:Nat):Int)<;>rfl
 have h4:kY (enC (-6553600000) (-6553600000) 6553600000 3 3 (List.replicate 9 V) (List.replicate 9 0) fl ke sw be we el (mbS l) t n (-x) y (-u) v (-s) b p q (i:Int)) (enO (-6553600000) (-6553600000) 6553600000 3 3 (List.replicate 9 V) (List.replicate 9 0) fl ke sw be we el (mbS l) t n (-x) y (-u) v (-s) b p q (i:Int))=mbS (enR (-6553600000) (-6553600000) 6553600000 3 3 (List.replicate 9 V) (List.replicate 9 0) fl ke sw be we el l t n x y u v s b p q ((sgm i:Nat):Int)):=eR
 unfold enE
 rw[NM,r4,eT,DZ,r5,h3,h4,kg,u4,r1,r2]
 rfl
end
/-! Points of mirrored stones. -/
def k8 (s:StI):StI:=(s.1,s.2.1,(-s.2.2.1.1,s.2.2.1.2.1,()),())
theorem NN (l:List BdI):fC (mbS l)=(fC l).map k8:=by
 unfold fC
 rw[List.filter_map,List.map_map,List.map_map]
 rfl
theorem Be (L:List SnI) (i:Nat):(L.map k8).getD i snD=k8 (L.getD i snD):=g8 k8 snD snD rfl L i
theorem Q3 (s:SnI):snV (k8 s)=snV s:=by
 have e1:(decide (-6553600000≤-s.x)&&decide (-s.x≤6553600000))=(decide (-6553600000≤s.x)&&decide (s.x≤6553600000)):=by
  rw[Bool.eq_iff_iff,Bool.and_eq_true,Bool.and_eq_true,decide_eq_true_eq,decide_eq_true_eq,decide_eq_true_eq,decide_eq_true_eq]; omega
 show ((decide (-6553600000≤-s.x)&&decide (-s.x≤6553600000))&&_)=_
 rw[e1]; rfl
theorem D0 (L:List SnI):gD (L.map k8)=gD L:=by
 unfold gD
 rw[List.length_map]
 have:kQ (L.map k8)=kQ L:=by
  funext i
  unfold kQ
  rw[Be,Q3]
  congr 2
  funext k
  rw[Be]; rfl
 rw[this]
theorem D1 (x y how:Int):dF (-x) y how=dF x y how:=by
 unfold dF rF
 rw[iL,show okB (-x)=okB x from by rw[Bool.eq_iff_iff,cI,cI]; omega]
theorem NO (L:List SnI) (i:Int):exE (L.map k8) i=exE L i:=by
 have e:stE (L.map k8) i=k8 (stE L i):=g8 k8 stD stD rfl L i.toNat
 unfold exE
 rw[e]
 show (i,dF (-(stE L i).2.2.1.1) _ 1,dF (-(stE L i).2.2.1.1) _ 2,())=_
 rw[D1,D1]; rfl
theorem NP (L:List SnI):exL (L.map k8)=exL L:=by
 unfold exL exN
 rw[D0,List.length_map]
 congr 1
 exact List.map_congr_left fun k _=>NO L _
theorem D2 (L:List SnI) (b:List RdI) (t:Int):tmL (L.map k8) b t=tmL L b t:=by
 unfold tmL tmN
 rw[List.length_map]
 congr 2
 funext k
 rw[Be]; rfl
theorem NQ (L:List SnI) (r:List RdI):scR (L.map k8) r=scR L r:=by
 unfold scR bW
 rw[D0,List.length_map,D2,D2]
theorem Q4 {R:List BdI}:kqS (mbS R)=kqS R:=by
 have e:xc (br (mbS R)) (fC (mbS R))=(xc (br R) (fC R)).map k8:=by
  rw[kg,NN]
  cases br R<;>rfl
 unfold kqS
 rw[e,NP,NQ]
theorem D3 (tm:Int) (R:List BdI):kpV tm (mbS R)=kpV tm R:=by
 unfold kpV
 rw[Q4]
def wcO (n:Int):Bool:=decide (0≤n)&&decide (n≤1000000)
def wcW (c:List Int):Bool:=decide (1≤c.length)&&(decide (c.length≤49)&&!(List.range c.length).any fun i=>!wcO (c.getD i 0))
def wcF {α:Type} (c:List Int) (k:AOut→Option α) (x:Int × Unit):Option (LRes (Int × Unit) α):=
 bif decide (x.1<(c.length:Int)) then
  if 0≤x.1∧x.1<(c.length:Int) then
   bif decide (0≤c.getD x.1.toNat 0) then bif !decide (c.getD x.1.toNat 0≤1000000) then finL (k (b1 !decide (x.1≥0))) else some (.cont (IntKind.i64.wrap (x.1+1),()))
   else finL (k (b1 !decide (x.1≥0)))
  else none
 else some (.brk 0 (x.1,()))
theorem NR (N n0:Nat) (α:Type) (c:List Int) (k:AOut→Option α):am real tab ((twY fsF spC).env real tab N (n0+12)) N Tryz.f65 α [.ro (.int .i64) c] k =
 bif decide (1≤(c.length:Int)) then bif decide ((c.length:Int)≤49) then ah (ag N (wcF c k) (0,())) fun id _=>if id=0 then k (b1 !false) else none else k (b1
 false) else k (b1 false):=by kernel_rfl
theorem JV {α:Type} (c:List Int) (k:AOut→Option α):(bif decide (1≤(c.length:Int)) then bif decide ((c.length:Int)≤49) then ah (ag 60 (wcF c k) (0,())) fun id _=>if id=0 then k (b1 !false) else none else k (b1 false) else k (b1 false))=k (b1 (wcW c)):=by
 unfold wcW
 rw[show decide (1≤(c.length:Int))=decide (1≤c.length) from decide_eq_decide.2 (by omega),show decide ((c.length:Int)≤49)=decide (c.length≤49) from decide_eq_decide.2 (by omega)]
 cases decide (1≤c.length)
 ·rfl
 by_cases h:c.length≤49
 case neg=>rw[decide_eq_false h]; rfl
 rw[decide_eq_true h,cond_true,cond_true,Bool.true_and,Bool.true_and]
 have hmx:c.length≤maxLen:=by have:maxLen=9223372036854775807:=rfl; omega
 refine (eA (f:=wcF c k) (fun i:Nat=>((i:Int),())) c.length (fun i=>!wcO (c.getD i 0)) (k (b1 false)) (fun i hi=>?_) (y:=((c.length:Int),())) (b:=0) ?_ (by omega)).trans ?_
 ·unfold wcF wcO
  simp only[a8 hi,cond_true,aQ hi,if_pos,and_self,decide_true,Int.toNat_natCast,ap hi hmx]
  cases decide (0≤c.getD i 0)<;>cases decide (c.getD i 0≤1000000)<;>rfl
 ·unfold wcF
  simp only[ao,cond_false]
 ·rw[if_pos rfl]
  cases (List.range c.length).any fun i=>!wcO (c.getD i 0)<;>rfl
noncomputable def wcS:Fsp:=fun _ args k=>match args with
 | [.ro (.int .i64) c]=>k (b1 (wcW c))
 |_=>none
theorem Q5:FspOk Tryz.prog 65 wcS:=ar lz dg ⟨Tryz.func65,fun _ _=>by kernel_rfl⟩ (by intro α args k; unfold wcS; split<;>rfl) fun args out hSm hEq=>by
 unfold wcS at hEq
 split at hEq
 ·rename_i c
  exact⟨60,12,((NR 60 0 AOut c some).trans (JV c some)).trans hEq⟩
 ·cases hEq
def wtF {α:Type} (c v:List Int) (x:Int × Int × Unit):Option (LRes (Int × Int × Unit) α):=
 bif decide (x.2.1<(c.length:Int)) then
  if 0≤x.2.1∧x.2.1<(c.length:Int) then if 0≤x.2.1∧x.2.1<(v.length:Int) then some (.cont (IntKind.i64.wrap (x.1+IntKind.i64.wrap (c.getD x.2.1.toNat 0*v.getD x.2.1.toNat 0)),IntKind.i64.wrap (x.2.1+1),())) else none else none
 else some (.brk 0 (x.1,x.2.1,()))
def wsF {α:Type} (c:List Int) (x:Int × Int × Unit):Option (LRes (Int × Int × Unit) α):=
 bif decide (x.2.1<(c.length:Int)) then
  if 0≤x.2.1∧x.2.1<(c.length:Int) then some (.cont (IntKind.i64.wrap (x.1+c.getD x.2.1.toNat 0),IntKind.i64.wrap (x.2.1+1),())) else none
 else some (.brk 0 (x.1,x.2.1,()))
def wmT {α:Type} (N:Nat) (op:Int→Int→Int) (how:Int) (c v:List Int) (d:Int) (P:Option α) (k:AOut→Option α):Option α:=
 bif decide ((v.length:Int)<1) then P else
 if 0≤(0:Int)∧(0:Int)<(v.length:Int) then
  ah (ag N (kmF op v) (v.getD (Int.toNat 0) 0,1,())) fun id x=>if id=0 then
   ah (ag N (wtF c v) (IntKind.i64.wrap (d*x.1),0,())) fun id y=>if id=0 then
    ah (ag N (wsF c) (0,0,())) fun id z=>if id=0 then
     if IntKind.i64.wrap (z.1+d)=0 then none else if IntKind.i64.wrap (z.1+d)=0 then none else
     k (.ret (.int .i64 (IntKind.i64.wrap (IntKind.i64.wrap (y.1.tdiv (IntKind.i64.wrap (z.1+d)))+slV (y.1.tmod (IntKind.i64.wrap (z.1+d))) 1 (IntKind.i64.wrap (z.1+d)) how))))
    else none
   else none
  else none
 else none
set_option maxRecDepth 100000 in
theorem Ga (N n0:Nat) (α:Type) (c v:List Int) (d:Int) (k:AOut→Option α):am real tab ((twY fsF spC).env real tab N (n0+12)) N Tryz.f68 α [.ro (.int .i64) c,.ro (.int .i64) v,.int .i64 d,.fn 69 [],.int .i64 1] k=wmT N kmN 1 c v d (k (.pan (.ifc 9 (.str ⟨#[115,108,105,99,101,115,46,77,105,110,58,32,101,109,112,116,121,32,108,105,115,116]⟩)))) k:=by kernel_rfl
set_option maxRecDepth 100000 in
theorem Gb (N n0:Nat) (α:Type) (c v:List Int) (d:Int) (k:AOut→Option α):am real tab ((twY fsF spC).env real tab N (n0+12)) N Tryz.f68 α [.ro (.int .i64) c,.ro (.int .i64) v,.int .i64 d,.fn 70 [],.int .i64 2] k=wmT N kmX 2 c v d (k (.pan (.ifc 9 (.str ⟨#[115,108,105,99,101,115,46,77,97,120,58,32,101,109,112,116,121,32,108,105,115,116]⟩)))) k:=by kernel_rfl
def wtV (c v:List Int) (x:Int):Nat→Int
 |0=>x
 |i+1=>IntKind.i64.wrap (wtV c v x i+IntKind.i64.wrap (c.getD i 0*v.getD i 0))
def wsW (c:List Int):Nat→Int
 |0=>0
 |i+1=>IntKind.i64.wrap (wsW c i+c.getD i 0)
def wmN (c:List Int) (d:Int):Int:=IntKind.i64.wrap (wsW c c.length+d)
def wmO (op:Int→Int→Int) (c v:List Int) (d:Int):Int:=wtV c v (IntKind.i64.wrap (d*kfN op v (v.length-1))) c.length
def wmW (op:Int→Int→Int) (how:Int) (c v:List Int) (d:Int):Int:=IntKind.i64.wrap (IntKind.i64.wrap ((wmO op c v d).tdiv (wmN c d))+slV ((wmO op c v d).tmod (wmN c d)) 1 (wmN c d) how)
def wmB (c v:List Int) (d:Int):Bool:=decide (1≤v.length)&&(decide (c.length≤v.length)&&!(wmN c d==0))
theorem JW {α:Type} (op:Int→Int→Int) (how:Int) (c v:List Int) (d:Int) (hB:wmB c v d=true) (hv:v.length≤maxLen) (P:Option α) (k:AOut→Option α):wmT (v.length+1) op how c v d P k=k (.ret (.int .i64 (wmW op how c v d))):=by
 unfold wmB at hB
 simp only[Bool.and_eq_true,decide_eq_true_eq,Bool.not_eq_true',beq_eq_false_iff_ne] at hB
 obtain⟨h1,h2,h3⟩:=hB
 unfold wmT
 rw[decide_eq_false (show ¬(v.length:Int)<1 by omega),cond_false,if_pos ⟨by omega,by omega⟩]
 refine (aD (f:=kmF op v) (fun i=>(kfN op v i,((i+1:Nat):Int),())) (v.length-1) (fun i hi=>?_) (y:=(kfN op v (v.length-1),(v.length:Int),())) (b:=0) ?_ (by omega)).trans ?_
 ·unfold kmF
  have hi':i+1<v.length:=by omega
  simp only[a8 hi',cond_true,aQ hi',if_pos,and_self,decide_true,Int.toNat_natCast,ap hi' hv,kfN]
 ·have e:v.length-1+1=v.length:=by omega
  rw[e]
  unfold kmF
  simp only[ao,cond_false]
 rw[if_pos rfl]
 refine (aD (f:=wtF c v) (fun i=>(wtV c v (IntKind.i64.wrap (d*kfN op v (v.length-1))) i,(i:Int),())) c.length (fun i hi=>?_) (y:=(wmO op c v d,(c.length:Int),())) (b:=0) ?_ (by omega)).trans ?_
 ·unfold wtF
  simp only[a8 hi,cond_true,aQ hi,aQ (show i<v.length by omega),if_pos,and_self,decide_true,Int.toNat_natCast,ap hi (by omega),wtV]
 ·unfold wtF
  simp only[ao,cond_false]
  rfl
 rw[if_pos rfl]
 refine (aD (f:=wsF c) (fun i=>(wsW c i,(i:Int),())) c.length (fun i hi=>?_) (y:=(wsW c c.length,(c.length:Int),())) (b:=0) ?_ (by omega)).trans ?_
 ·unfold wsF
  simp only[a8 hi,cond_true,aQ hi,if_pos,and_self,decide_true,Int.toNat_natCast,ap hi (by omega),wsW]
 ·unfold wsF
  simp only[ao,cond_false]
 rw[if_pos rfl]
 show (if wmN c d=0 then none else if wmN c d=0 then none else _)=_
 rw[if_neg h3,if_neg h3]
 rfl
noncomputable def NS:Fsp:=fun _ args k=>match args with
 | [.ro (.int .i64) c,.ro (.int .i64) v,.int .i64 d,.fn g [],.int .i64 how]=>
   bif g==69&&how==1 then (bif wmB c v d then k (.ret (.int .i64 (wmW kmN 1 c v d))) else none) else
   bif g==70&&how==2 then (bif wmB c v d then k (.ret (.int .i64 (wmW kmX 2 c v d))) else none) else none
 |_=>none
theorem NT:FspOk Tryz.prog 68 NS:=ar lz dg ⟨Tryz.func68,fun _ _=>by kernel_rfl⟩ (by intro α args k; unfold NS; split<;>simp only[ak,Option.bind_some,Option.bind_none]) fun args out hSm hEq=>by
 unfold NS at hEq
 split at hEq
 ·rename_i c v d g how
  have hv:List.length (α:=Int) v≤maxLen:=(hSm _ (.tail _ (.head _))).len
  cases h1:g==69&&how==1
  ·rw[h1,cond_false] at hEq
   cases h2:g==70&&how==2
   ·rw[h2] at hEq; cases hEq
   ·rw[h2,cond_true] at hEq
    rw[Bool.and_eq_true,beq_iff_eq,beq_iff_eq] at h2
    obtain⟨rfl,rfl⟩:=h2
    cases hB:wmB c v d
    ·rw[hB] at hEq; cases hEq
    ·rw[hB] at hEq
     exact⟨List.length (α:=Int) v+1,12,((Gb _ 0 AOut c v d some).trans (JW kmX 2 c v d hB hv _ some)).trans hEq⟩
  ·rw[h1,cond_true] at hEq
   rw[Bool.and_eq_true,beq_iff_eq,beq_iff_eq] at h1
   obtain⟨rfl,rfl⟩:=h1
   cases hB:wmB c v d
   ·rw[hB] at hEq; cases hEq
   ·rw[hB] at hEq
    exact⟨List.length (α:=Int) v+1,12,((Ga _ 0 AOut c v d some).trans (JW kmN 1 c v d hB hv _ some)).trans hEq⟩
 ·cases hEq
noncomputable def Q6:FuncId→Option Fsp:=fun g=>
 if g=65 then some wcS else
 if g=68 then some NS else
 if g=22 then some yd else
 DW g
theorem D4:aI Q6:=
 ae Q5 <|
 ae NT <|
 ae ye <|
 qs
/-! Worth. -/
def woK {α:Type} (c a z:List Int) (d:Int) (k:AOut→Option α):Option α:=
 bif wmB c a d then bif wmB c z d then k (.ret (.tup [.int .i64 (wmW kmN 1 c a d),.int .i64 (wmW kmX 2 c z d),.int .i64 0])) else none else none
def woF {α:Type} (e lo hi:Int→Int) (c:List Int) (d:Int) (k:AOut→Option α) (x:Int × List Int × List Int × Unit):Option (LRes (Int × List Int × List Int × Unit) α):=
 bif decide (x.1<49) then
  bif e x.1==0 then
   if (x.2.1.length+[IntKind.i64.wrap (lo x.1*65536)].length)*8≤room then
    if (x.2.2.1.length+[IntKind.i64.wrap (hi x.1*65536)].length)*8≤room then
     some (.cont (IntKind.i64.wrap (x.1+1),x.2.1++[IntKind.i64.wrap (lo x.1*65536)],x.2.2.1++[IntKind.i64.wrap (hi x.1*65536)],()))
    else none
   else none
  else finL (bif e x.1 != 0 then k (.ret (.tup [.int .i64 0,.int .i64 0,.int .i64 (e x.1)])) else woK c x.2.1 x.2.2.1 d k)
 else some (.brk 0 (x.1,x.2.1,x.2.2.1,()))
def woT {α:Type} (N:Nat) (g:Bool) (e lo hi:Int→Int) (c:List Int) (d tm:Int) (k:AOut→Option α):Option α:=
 bif !g then k (.ret (.tup [.int .i64 0,.int .i64 0,.int .i64 2])) else
 bif !wcW c then k (.ret (.tup [.int .i64 0,.int .i64 0,.int .i64 2])) else
 bif (c.length:Int) != 49 then k (.ret (.tup [.int .i64 0,.int .i64 0,.int .i64 2])) else
 bif decide (1≤d) then bif !decide (d≤1000) then k (.ret (.tup [.int .i64 0,.int .i64 0,.int .i64 2])) else
  bif decide (0≤tm) then bif !decide (tm≤1) then k (.ret (.tup [.int .i64 0,.int .i64 0,.int .i64 2])) else
   ah (ag N (woF e lo hi c d k) (0,[],[],())) fun id y=>if id=0 then woK c y.2.1 y.2.2.1 d k else none
  else k (.ret (.tup [.int .i64 0,.int .i64 0,.int .i64 2]))
 else k (.ret (.tup [.int .i64 0,.int .i64 0,.int .i64 2]))
set_option maxRecDepth 100000 in
theorem Gc (N n0:Nat) (α:Type) (cx cy sd w h:Int) (pb po:List Int) (fl ke sw be we:Int) (el:Int) (l:List BdI) (t n x y u v s:Int) (b:List BrI) (p q:Int) (c:List Int) (d tm:Int) (k:AOut→Option α):am real tab ((twY Q6 FJ).env real tab N (n0+14)) N Tryz.f24 α [.agg [.int .i64 cx,.int .i64 cy,.int .i64 sd,.int .i64 w,.int .i64 h,.ro (.int .i64) pb,.ro (.int .i64) po],.agg [.int .i64 fl,.int .i64 ke,.int .i64 sw,.int .i64 be,.int .i64 we],.ro (.recd (.cons (.int .i64) (.cons (.int .i64) (.cons (.recd (.cons (.recd (.cons (.int .i64) (.cons (.int .i64) .nil))) (.cons (.recd (.cons (.int .i64) (.cons (.int .i64) .nil))) (.cons (.int .i64) .nil)))) (.cons .bool .nil))))) l,.agg [.int .i64 t,.int .i64 n,.int .i64 x,.int .i64 y,.int .i64 u,.int .i64 v,.int .i64 s,.ro (.recd (.cons (.int .i64) (.cons (.int .i64) (.cons (.int .i64) .nil)))) b,.int .i64 p,.int .i64 q],.int .i64 el,.ro (.int .i64) c,.int .i64 d,.int .i64 tm] k =
 woT N (jB cx cy sd w h pb po fl ke sw be we el l (ccB t n x y u v s b p q)) (fun m=>enE cx cy sd w h pb po fl ke sw be we el l t n x y u v s b p q m) (fun m=>kfL kmN (kpV tm
 (enR cx cy sd w h pb po fl ke sw be we el l t n x y u v s b p q m))) (fun m=>kfL kmX (kpV tm (enR cx cy sd w h pb po fl ke sw be we el l t n x y u v s b p q m))) c d tm k:=by
 kernel_rfl
def woL (f:Int→Int) (i:Nat):List Int:=(List.range i).map fun m:Nat=>IntKind.i64.wrap (f (m:Int)*65536)
def woE (e:Int→Int):Int:=match (List.range 49).find? fun i:Nat=>!(e (i:Int)==0) with
 |none=>0
 |some i=>e (i:Int)
def woV (g:Bool) (c:List Int) (d tm:Int):Bool:=g&&(wcW c&&(((c.length:Int)==49)&&((decide (1≤d)&&decide (d≤1000))&&(decide (0≤tm)&&decide (tm≤1)))))
def woJ (g:Bool) (e:Int→Int) (c:List Int) (d tm:Int):Int:=bif woV g c d tm then woE e else 2
def woA (g:Bool) (e lo:Int→Int) (c:List Int) (d tm:Int):Int:=bif woJ g e c d tm==0 then wmW kmN 1 c (woL lo 49) d else 0
def woZ (g:Bool) (e hi:Int→Int) (c:List Int) (d tm:Int):Int:=bif woJ g e c d tm==0 then wmW kmX 2 c (woL hi 49) d else 0
theorem yg {c:List Int} (h:wcW c=true) (i:Nat):0≤c.getD i 0∧c.getD i 0≤1000000:=by
 unfold wcW at h
 simp only[Bool.and_eq_true,Bool.not_eq_true',List.any_eq_false] at h
 rcases Nat.lt_or_ge i c.length with hi|hi
 ·have:=h.2.2 i (List.mem_range.2 hi)
  unfold wcO at this
  simpa using this
 ·rw[List.getD_eq_getElem?_getD,List.getElem?_eq_none hi]; decide
theorem D5 {c:List Int} (h:wcW c=true):∀i,i≤60→0≤wsW c i∧wsW c i≤1000000*i
 |0,_=>⟨Int.le_refl _,by show (0:Int)≤_; omega⟩
 |i+1,hi=>by
  have ih:=D5 h i (by omega)
  have:=yg h i
  rw[wsW,az _ (by omega)]
  omega
theorem PA {c v:List Int} (h:wcW c=true) (hc:c.length=49) (hv:v.length=49) {d:Int} (hd:1≤d∧d≤1000):wmB c v d=true:=by
 unfold wmB wmN
 have:=D5 h 49 (by omega)
 rw[hc,hv,az _ (by omega),show (wsW c 49+d==0)=false from by rw[beq_eq_false_iff_ne]; omega]
 rfl
theorem Q7 {α:Type} {e lo hi:Int→Int} {c:List Int} (h:wcW c=true) (hc:c.length=49) {d:Int} (hd:1≤d∧d≤1000) (k:AOut→Option α):(ah (ag 50 (woF e lo hi c d k) (0,[],[],())) fun id y=>if id=0 then woK c y.2.1 y.2.2.1 d k else none)=k (.ret (.tup [.int .i64 (bif woE e==0 then wmW kmN 1 c (woL lo 49) d else 0),.int .i64 (bif woE e==0 then wmW kmX 2 c (woL hi 49) d else 0),.int .i64 (woE e)])):=by
 have hroom:room≥10000:=by decide
 have len:∀(f:Int→Int) i,(woL f i).length=i:=fun f i=>by unfold woL; rw[List.length_map,List.length_range]
 have suc:∀(f:Int→Int) i,woL f (i+1)=woL f i++[IntKind.i64.wrap (f (i:Int)*65536)]:=fun f i=>by unfold woL; rw[List.range_succ,List.map_append]; rfl
 have key:=Hq (f:=woF e lo hi c d k) (K:=fun id y=>if id=0 then woK c y.2.1 y.2.2.1 d k else none) (fun i:Nat=>((i:Int),woL lo i,woL hi i,())) 49 (fun i:Nat=>!(e (i:Int)==0)) (b:=0) (y:=(((49:Nat):Int),woL lo 49,woL hi 49,())) (fun i:Nat=>k (.ret (.tup [.int .i64 0,.int .i64 0,.int .i64 (e (i:Int))]))) (fun i hi'=>?_) ?_
 ·refine key.trans ?_
  unfold woE
  cases hf:(List.range 49).find? fun i:Nat=>!(e (i:Int)==0) with
  |none=>
   show woK c (woL lo 49) (woL hi 49) d k=_
   unfold woK
   rw[PA h hc (len lo 49) hd,PA h hc (len hi 49) hd]; rfl
  |some i=>
   have hn:=List.find?_some hf
   simp only[Bool.not_eq_true'] at hn
   show k _=k _
   simp only[hn,cond_false]
 ·unfold woF
  simp only[decide_eq_true (show (i:Int)<49 by omega),cond_true,len,List.length_singleton,suc]
  rw[if_pos (by omega),if_pos (by omega),ap hi' (by decide)]
  cases he:e (i:Int)==0
  ·rw[cond_false,Bool.not_false,cond_true,bne,he]; rfl
  ·rfl
 ·unfold woF
  rfl
noncomputable def D6:Fsp:=fun _ args k=>match args with
 | [.agg [.int .i64 cx,.int .i64 cy,.int .i64 sd,.int .i64 w,.int .i64 h,.ro (.int .i64) pb,.ro (.int .i64) po],.agg [.int .i64 fl,.int .i64 ke,.int .i64 sw,.int .i64 be,.int .i64 we],.ro (.recd (.cons (.int .i64) (.cons (.int .i64) (.cons (.recd (.cons (.recd (.cons (.int .i64) (.cons (.int .i64) .nil))) (.cons (.recd (.cons (.int .i64) (.cons (.int .i64) .nil))) (.cons (.int .i64) .nil)))) (.cons .bool .nil))))) l,.agg [.int .i64 t,.int .i64 n,.int .i64 x,.int .i64 y,.int .i64 u,.int .i64 v,.int .i64 s,.ro (.recd (.cons (.int .i64) (.cons (.int .i64) (.cons (.int .i64) .nil)))) b,.int .i64 p,.int .i64 q],.int .i64 el,.ro (.int .i64) c,.int .i64 d,.int .i64 tm]=>k (.ret (.tup [.int .i64 (woA (jB cx cy sd w h pb po fl ke sw be we el l (ccB t n x y u v s b p q)) (fun m=>enE cx cy sd w h pb po fl ke sw be we el l t n x y u v s b p q m) (fun m=>kfL kmN (kpV tm (enR cx cy sd w h pb po fl ke sw be we el l t n x y u v s b p q m))) c d tm),.int .i64 (woZ (jB cx cy sd w h pb po fl ke sw be we el l (ccB t n x y u v s b p q)) (fun m=>enE cx cy sd w h pb po fl ke sw be we el l t n x y u v s b p q m) (fun m=>kfL kmX (kpV tm (enR cx cy sd w h pb po fl ke sw be we el l t n x y u v s b p q m))) c d tm),.int .i64 (woJ (jB cx cy sd w h pb po fl ke sw be we el l (ccB t n x y u v s b p q)) (fun m=>enE cx cy sd w h pb po fl ke sw be we el l t n x y u v s b p q m) c d tm)]))
 |_=>none
theorem Q8 {α:Type} (g:Bool) (e lo hi:Int→Int) (c:List Int) (d tm:Int) (k:AOut→Option α):woT 50 g e lo hi c d tm k=k (.ret (.tup [.int .i64 (woA g e lo c d tm),.int .i64 (woZ g e hi c d tm),.int .i64 (woJ g e c d tm)])):=by
 unfold woT woA woZ woJ woV
 cases g
 ·rfl
 cases hw:wcW c
 ·rfl
 cases hl:(c.length:Int)==49
 ·rw[bne,hl]; rfl
 cases h1:decide (1≤d)
 ·rw[bne,hl]; rfl
 cases h2:decide (d≤1000)
 ·rw[bne,hl]; rfl
 cases h3:decide (0≤tm)
 ·rw[bne,hl]; rfl
 cases h4:decide (tm≤1)
 ·rw[bne,hl]; rfl
 rw[bne,hl]
 have hc:(c.length:Int)=49:=eq_of_beq hl
 exact Q7 hw (by omega) ⟨of_decide_eq_true h1,of_decide_eq_true h2⟩ k
theorem JX:FspOk Tryz.prog 24 D6:=ar D4 l5 ⟨Tryz.func24,fun _ _=>by kernel_rfl⟩ (by intro α args k; unfold D6; split<;>rfl) fun args out hSm hEq=>by
 unfold D6 at hEq
 split at hEq
 ·rename_i cx cy sd w h pb po fl ke sw be we l t n x y u v s b p q el c d tm
  exact⟨50,14,((Gc 50 0 AOut cx cy sd w h pb po fl ke sw be we el l t n x y u v s b p q c d tm some).trans (Q8 _ _ _ _ c d tm some)).trans hEq⟩
 ·cases hEq
/-! Sums. -/
def wsS (f:Nat→Int):Nat→Int
 |0=>0
 |i+1=>wsS f i+f i
theorem nC {f g:Nat→Int}:∀n,(∀i,i<n→f i=g i)→wsS f n=wsS g n
 |0,_=>rfl
 |n+1,h=>by rw[wsS,wsS,nC n fun i hi=>h i (by omega),h n (by omega)]
theorem vo {f g:Nat→Int}:∀n,(∀i,i<n→f i≤g i)→wsS f n≤wsS g n
 |0,_=>Int.le_refl _
 |n+1,h=>by
  have h1:=vo n fun i hi=>h i (by omega)
  have h2:=h n (by omega)
  rw[wsS,wsS]; omega
theorem vp (f:Nat→Int) (L:Int):∀n,wsS (fun i=>f i*L) n=wsS f n*L
 |0=>(Int.zero_mul L).symm
 |n+1=>by rw[wsS,wsS,vp f L n,Int.add_mul]
theorem wmulb {a b A B:Int} (ha:0≤a∧a≤A) (hb:-B≤b∧b≤B) (hB:0≤B):-(A*B)≤a*b∧a*b≤A*B:=by
 have h1:=Int.mul_le_mul_of_nonneg_left hb.2 ha.1
 have h2:=Int.mul_le_mul_of_nonneg_left hb.1 ha.1
 have h3:=Int.mul_le_mul_of_nonneg_right ha.2 hB
 rw[Int.mul_neg] at h2
 omega
structure WoC (c:List Int):Prop where
 len:c.length=49
 ok:wcW c=true
structure WoI (v:List Int):Prop where
 len:v.length=49
 bd:∀i,-1048576≤v.getD i 0∧v.getD i 0≤1048576
def wcv (c v:List Int) (i:Nat):Int:=c.getD i 0*v.getD i 0
theorem Q9 {c v:List Int} (hc:WoC c) (hv:WoI v) (i:Nat):-1048576000000≤wcv c v i∧wcv c v i≤1048576000000:=by
 have:=wmulb (yg hc.ok i) (hv.bd i) (by omega)
 unfold wcv; omega
theorem md {c v:List Int} (hc:WoC c) (hv:WoI v) {x:Int} (hx:-2000000000≤x∧x≤2000000000):∀n,n≤60→wtV c v x n=x+wsS (wcv c v) n∧-(1048576000000*(n:Int))≤wsS (wcv c v) n∧wsS (wcv c v) n≤1048576000000*(n:Int)
 |0,_=>⟨(Int.add_zero x).symm,by show -(1048576000000*(0:Int))≤0; omega,by show (0:Int)≤_; omega⟩
 |n+1,hn=>by
  obtain⟨h1,h2,h3⟩:=md hc hv hx n (by omega)
  have h4:=Q9 hc hv n
  rw[wtV,wsS,h1]
  have e:IntKind.i64.wrap (c.getD n 0*v.getD n 0)=wcv c v n:=az _ (by unfold wcv at h4; omega)
  rw[e,az _ (by omega)]
  omega
theorem me {c:List Int} (hc:WoC c):∀n,n≤60→wsW c n=wsS (fun i=>c.getD i 0) n
 |0,_=>rfl
 |n+1,hn=>by
  have h1:=D5 hc.ok n (by omega)
  have h2:=yg hc.ok n
  rw[wsW,wsS,←me hc n (by omega),az _ (by omega)]
/-! The least and the most. -/
theorem jC (V:List Int):∀n i,i≤n→kfN kmN V n≤V.getD i 0∧V.getD i 0≤kfN kmX V n
 |0,i,h=>by
  have:i=0:=by omega
  subst this
  exact⟨Int.le_refl _,Int.le_refl _⟩
 |n+1,i,h=>by
  simp only[kfN]
  have a:kmN (kfN kmN V n) (V.getD (n+1) 0)≤kfN kmN V n∧kmN (kfN kmN V n) (V.getD (n+1) 0)≤V.getD (n+1) 0:=by unfold kmN; split<;>omega
  have b:kfN kmX V n≤kmX (kfN kmX V n) (V.getD (n+1) 0)∧V.getD (n+1) 0≤kmX (kfN kmX V n) (V.getD (n+1) 0):=by unfold kmX; split<;>omega
  rcases Nat.lt_or_ge i (n+1) with hi|hi
  ·have:=jC V n i (by omega); omega
  ·have:i=n+1:=by omega
   subst this; omega
theorem la (V:List Int):∀n,(∃i,i≤n∧kfN kmN V n=V.getD i 0)∧∃i,i≤n∧kfN kmX V n=V.getD i 0
 |0=>⟨⟨0,Nat.le_refl _,rfl⟩,0,Nat.le_refl _,rfl⟩
 |n+1=>by
  obtain⟨⟨i,hi,e1⟩,j,hj,e2⟩:=la V n
  simp only[kfN]
  constructor
  ·unfold kmN
   split
   ·exact⟨n+1,Nat.le_refl _,rfl⟩
   ·exact⟨i,by omega,e1⟩
  ·unfold kmX
   split
   ·exact⟨n+1,Nat.le_refl _,rfl⟩
   ·exact⟨j,by omega,e2⟩
/-! The mean. -/
theorem JY (neg:Bool) (n d:Int):rnd 2 neg n d=rnd 1 (!neg) n d:=by
 unfold rnd up1
 simp
theorem NU {s d:Int} (hd:0<d):sg (ngB s) (rnd 2 (ngB s) (ab s) d)=-((-s) / d):=by
 by_cases h0:s=0
 ·subst h0
  unfold rnd up1 sg ngB ab
  simp
 ·rw[JY,←r7 hd]
  have e1:ngB (-s)=!ngB s:=by
   unfold ngB
   by_cases h:s<0
   ·rw[decide_eq_true h,decide_eq_false (by omega)]; rfl
   ·rw[decide_eq_false h,decide_eq_true (by omega)]; rfl
  have e2:ab (-s)=ab s:=by unfold ab; split<;>split<;>omega
  rw[e1,e2]
  unfold sg
  cases ngB s<;>simp
theorem NV {s d:Int} (hd:0<d) (how:Int) (neg:Bool) (h:ab s<d):0≤rnd how neg (ab s) d∧rnd how neg (ab s) d≤1:=by
 have h0:=b9 s
 unfold rnd
 rw[Int.ediv_eq_zero_of_lt h0 h]
 cases up1 how neg (ab s % d) d<;>simp
theorem D7 {s d how:Int} (hd:0<d∧d≤2000000000) (h:ab s<d):slV s 1 d how=sg (ngB s) (rnd how (ngB s) (ab s) d):=by
 have h0:=b9 s
 have h1:=NV hd.1 how (ngB s) h
 have hab:-2000000000≤s∧s≤2000000000:=by unfold ab at h; split at h<;>omega
 have hg:scG s 1 d=ngB s:=by
  unfold scG
  rw[lD (show (0:Int)≤1 by omega),lD (show 0≤d by omega)]
  unfold xorB
  cases ngB s<;>rfl
 have hP:slP s 1 d how=rnd how (ngB s) (ab s) d:=by
  unfold slP
  rw[hg,jV (show (0:Int)≤1 by omega),jV (show 0≤d by omega),Int.mul_one]
  exact dJ h0 hd.1 (by rw[Int.ediv_eq_zero_of_lt h0 h]; omega)
 have hok:r6 s 1 d=true:=by
  unfold r6
  rw[cI.2 (by omega),dY.2 (by omega),dY.2 (by omega)]; rfl
 have hd0:(d==0)=false:=by simp; omega
 have hf:fxB (rnd how (ngB s) (ab s) d)=true:=by simp only[fxB,decide_eq_true_eq]; omega
 unfold slV
 rw[hok,hd0,hP,hg]
 unfold fxV
 rw[hf]
 rfl
theorem PB {X n:Int} (hn:0<n∧n≤2000000000) (hX:-4000000000000000000≤X∧X≤4000000000000000000):IntKind.i64.wrap (IntKind.i64.wrap (X.tdiv n)+slV (X.tmod n) 1 n 1)=X / n∧IntKind.i64.wrap (IntKind.i64.wrap (X.tdiv n)+slV (X.tmod n) 1 n 2)=-((-X) / n):=by
 have hr:-n<X.tmod n∧X.tmod n<n:=by
  rcases Int.le_total 0 X with h|h
  ·rw[Int.tmod_eq_emod_of_nonneg h]
   have:=Int.emod_nonneg X (show n≠0 by omega)
   have:=Int.emod_lt_of_pos X hn.1
   omega
  ·have e:X.tmod n=-((-X) % n):=by
    rw[←Int.tmod_eq_emod_of_nonneg (show 0≤-X by omega),Int.neg_tmod,Int.neg_neg]
   have:=Int.emod_nonneg (-X) (show n≠0 by omega)
   have:=Int.emod_lt_of_pos (-X) hn.1
   omega
 have ha:ab (X.tmod n)<n:=by unfold ab; split<;>omega
 have hX':X=X.tmod n+X.tdiv n*n:=by
  have:=Int.mul_tdiv_add_tmod X n
  rw[Int.mul_comm] at this; omega
 have hq:-4000000000000000000≤X.tdiv n∧X.tdiv n≤4000000000000000000:=by
  rcases Int.le_total 0 X with h|h
  ·rw[Int.tdiv_eq_ediv_of_nonneg h]
   have:=Int.ediv_nonneg h (show 0≤n by omega)
   have:=Int.ediv_le_self n h
   omega
  ·have e:X.tdiv n=-((-X) / n):=by
    rw[←Int.tdiv_eq_ediv_of_nonneg (show 0≤-X by omega),Int.neg_tdiv,Int.neg_neg]
   have:=Int.ediv_nonneg (show 0≤-X by omega) (show 0≤n by omega)
   have:=Int.ediv_le_self n (show 0≤-X by omega)
   omega
 have s1:X / n=X.tdiv n+X.tmod n / n:=by
  conv=>lhs; rw[hX',Int.add_mul_ediv_right _ _ (show n≠0 by omega)]
  omega
 have s2:(-X) / n=-X.tdiv n+(-X.tmod n) / n:=by
  have e:-X=-X.tmod n+-X.tdiv n*n:=by rw[Int.neg_mul]; omega
  conv=>lhs; rw[e,Int.add_mul_ediv_right _ _ (show n≠0 by omega)]
  omega
 have b1:-1≤X.tmod n / n∧X.tmod n / n≤0:=by
  have h1:=Int.ediv_le_ediv (a:=X.tmod n) (b:=n-1) hn.1 (by omega)
  have h2:=Int.ediv_le_ediv (a:=-n) (b:=X.tmod n) hn.1 (by omega)
  rw[Int.ediv_eq_zero_of_lt (show (0:Int)≤n-1 by omega) (show n-1<n by omega)] at h1
  rw[Int.neg_ediv_self n (show n≠0 by omega)] at h2
  omega
 have b2:-1≤(-X.tmod n) / n∧(-X.tmod n) / n≤0:=by
  have h1:=Int.ediv_le_ediv (a:=-X.tmod n) (b:=n-1) hn.1 (by omega)
  have h2:=Int.ediv_le_ediv (a:=-n) (b:=-X.tmod n) hn.1 (by omega)
  rw[Int.ediv_eq_zero_of_lt (show (0:Int)≤n-1 by omega) (show n-1<n by omega)] at h1
  rw[Int.neg_ediv_self n (show n≠0 by omega)] at h2
  omega
 rw[D7 hn ha,D7 hn ha,r7 hn.1,NU hn.1,az (X.tdiv n) (by omega),az _ (by omega),az _ (by omega),s1,s2]
 omega
theorem Gd {c v w:List Int} (hc:WoC c) (hv:WoI v) (hw:WoI w) {k:Int} (hk:1≤k∧k≤1000) {L M:Int} (h:∀i,i<49→L≤v.getD i 0∧v.getD i 0≤w.getD i 0∧w.getD i 0≤M):L≤wmW kmN 1 c v k∧wmW kmN 1 c v k≤wmW kmX 2 c w k∧wmW kmX 2 c w k≤M:=by
 have hn1:=D5 hc.ok 49 (by omega)
 have eN:wmN c k=wsS (fun i=>c.getD i 0) 49+k:=by
  unfold wmN
  rw[hc.len,az _ (by omega),me hc 49 (by omega)]
 rw[me hc 49 (by omega)] at hn1
 obtain⟨⟨i,hi,e1⟩,_⟩:=la v 48
 obtain⟨_,j,hj,e2⟩:=la w 48
 have bi:=hv.bd i
 have bj:=hw.bd j
 have hx1:=wmulb (a:=k) (b:=kfN kmN v 48) (A:=1000) (B:=1048576) (by omega) (by rw[e1]; exact bi) (by omega)
 have hx2:=wmulb (a:=k) (b:=kfN kmX w 48) (A:=1000) (B:=1048576) (by omega) (by rw[e2]; exact bj) (by omega)
 have t1:=md hc hv (x:=k*kfN kmN v 48) (by omega) 49 (by omega)
 have t2:=md hc hw (x:=k*kfN kmX w 48) (by omega) 49 (by omega)
 have eO1:wmO kmN c v k=k*kfN kmN v 48+wsS (wcv c v) 49:=by
  unfold wmO
  rw[hv.len,hc.len,show (49:Nat)-1=48 from rfl,az (k*kfN kmN v 48) (by omega),t1.1]
 have eO2:wmO kmX c w k=k*kfN kmX w 48+wsS (wcv c w) 49:=by
  unfold wmO
  rw[hw.len,hc.len,show (49:Nat)-1=48 from rfl,az (k*kfN kmX w 48) (by omega),t2.1]
 have c0:∀i,0≤c.getD i 0:=fun i=>(yg hc.ok i).1
 have g1:wsS (fun i=>c.getD i 0) 49*L≤wsS (wcv c v) 49:=by
  rw[←vp]
  exact vo 49 fun i hi=>Int.mul_le_mul_of_nonneg_left (h i hi).1 (c0 i)
 have g2:wsS (wcv c v) 49≤wsS (wcv c w) 49:=vo 49 fun i hi=>Int.mul_le_mul_of_nonneg_left (h i hi).2.1 (c0 i)
 have g3:wsS (wcv c w) 49≤wsS (fun i=>c.getD i 0) 49*M:=by
  rw[←vp]
  exact vo 49 fun i hi=>Int.mul_le_mul_of_nonneg_left (h i hi).2.2 (c0 i)
 have k1:k*L≤k*kfN kmN v 48:=Int.mul_le_mul_of_nonneg_left (by rw[e1]; exact (h i (by omega)).1) (by omega)
 have k2:k*kfN kmN v 48≤k*kfN kmX w 48:=by
  refine Int.mul_le_mul_of_nonneg_left ?_ (by omega)
  have a:=(jC v 48 0 (by omega)).1
  have b:=(jC w 48 0 (by omega)).2
  have:=(h 0 (by omega)).2.1
  omega
 have k3:k*kfN kmX w 48≤k*M:=Int.mul_le_mul_of_nonneg_left (by rw[e2]; exact (h j (by omega)).2.2) (by omega)
 have q1:=(PB (X:=wmO kmN c v k) (n:=wmN c k) (by rw[eN]; omega) (by rw[eO1]; omega)).1
 have q2:=(PB (X:=wmO kmX c w k) (n:=wmN c k) (by rw[eN]; omega) (by rw[eO2]; omega)).2
 have w1:wmW kmN 1 c v k=wmO kmN c v k / wmN c k:=q1
 have w2:wmW kmX 2 c w k=-((-wmO kmX c w k) / wmN c k):=q2
 have hn:0<wmN c k:=by rw[eN]; omega
 have xL:L*wmN c k≤wmO kmN c v k:=by
  rw[eN,eO1,Int.mul_add,Int.mul_comm L,Int.mul_comm L]; omega
 have xM:(-M)*wmN c k≤-wmO kmX c w k:=by
  rw[eN,eO2,Int.neg_mul,Int.mul_add,Int.mul_comm M,Int.mul_comm M]; omega
 have xX:wmO kmN c v k≤wmO kmX c w k:=by rw[eO1,eO2]; omega
 rw[w1,w2]
 have a1:=Int.le_ediv_of_mul_le hn xL
 have a3:=Int.le_ediv_of_mul_le hn xM
 have a2:wmO kmN c v k / wmN c k≤-((-wmO kmX c w k) / wmN c k):=by
  have m1:=Int.ediv_mul_le (wmO kmN c v k) (show wmN c k≠0 by omega)
  have m2:=Int.ediv_mul_le (-wmO kmX c w k) (show wmN c k≠0 by omega)
  have m3:(wmO kmN c v k / wmN c k)*wmN c k≤(-((-wmO kmX c w k) / wmN c k))*wmN c k:=by rw[Int.neg_mul]; omega
  exact Int.le_of_mul_le_mul_right m3 hn
 exact⟨a1,a2,by omega⟩
theorem JZ {e:Int→Int}:woE e=0↔∀i:Nat,i<49→e (i:Int)=0:=by
 unfold woE
 constructor
 ·intro h i hi
  cases hf:(List.range 49).find? fun i:Nat=>!(e (i:Int)==0) with
  |none=>
   have:=List.find?_eq_none.1 hf i (List.mem_range.2 hi)
   simpa using this
  |some j=>
   rw[hf] at h
   have:=List.find?_some hf
   replace h:e (j:Int)=0:=h
   rw[h] at this
   exact absurd this (by decide)
 ·intro h
  rw[List.find?_eq_none.2 fun i hi=>by rw[h i (List.mem_range.1 hi)]; decide]
theorem pj {f:Int→Int} (hf:∀i:Nat,i<49→-16≤f (i:Int)∧f (i:Int)≤16):WoI (woL f 49)∧∀i,i<49→(woL f 49).getD i 0=f (i:Int)*65536:=by
 have len:(woL f 49).length=49:=by unfold woL; rw[List.length_map,List.length_range]
 have at_:∀i,i<49→(woL f 49).getD i 0=f (i:Int)*65536:=fun i hi=>by
  have:=hf i hi
  unfold woL
  rw[List.getD_eq_getElem?_getD,List.getElem?_map,List.getElem?_range hi]
  exact az _ (by omega)
 refine⟨⟨len,fun i=>?_⟩,at_⟩
 rcases Nat.lt_or_ge i 49 with hi|hi
 ·have:=hf i hi
  rw[at_ i hi]; omega
 ·rw[List.getD_eq_getElem?_getD,List.getElem?_eq_none (by omega)]
  decide
theorem Bf {g:Bool} {c:List Int} {d tm:Int}:woV g c d tm=true↔g=true∧WoC c∧(1≤d∧d≤1000)∧0≤tm∧tm≤1:=by
 unfold woV
 simp only[Bool.and_eq_true,decide_eq_true_eq,beq_iff_eq]
 constructor
 ·rintro⟨h1,h2,h3,h4,h5⟩
  exact⟨h1,⟨by omega,h2⟩,h4,h5⟩
 ·rintro⟨h1,h2,h4,h5⟩
  exact⟨h1,h2.ok,by have:=h2.len; omega,h4,h5⟩
/-! Points are at most 16. -/
theorem Ra (tm:Int) (R:List BdI) {x:Int} (h:x∈kpV tm R):-16≤x∧x≤16:=by
 unfold kpV at h
 obtain⟨p,hp,rfl⟩:=List.mem_map.1 h
 have hq:0≤p.2.1∧p.2.1≤16:=by
  unfold kqS scR at hp
  revert hp
  cases bW (xc (br R) (fC R)) (exL (xc (br R) (fC R)))==0
  ·intro hp; cases hp
  ·intro hp; exact (Js hp).2.2
 unfold sgT
 cases p.1==IntKind.i64.wrap (1-tm)
 ·show -16≤p.2.1∧p.2.1≤16; omega
 ·show -16≤IntKind.i64.wrap (0-p.2.1)∧IntKind.i64.wrap (0-p.2.1)≤16
  rw[az _ (by omega)]; omega
theorem Rb (tm:Int) (R:List BdI):-16≤kfL kmN (kpV tm R)∧kfL kmN (kpV tm R)≤kfL kmX (kpV tm R)∧kfL kmX (kpV tm R)≤16:=by
 have g:∀i,-16≤(kpV tm R).getD i 0∧(kpV tm R).getD i 0≤16:=fun i=>by
  rcases Nat.lt_or_ge i (kpV tm R).length with hi|hi
  ·exact Ra tm R (by rw[List.getD_eq_getElem?_getD,List.getElem?_eq_getElem hi]; exact List.getElem_mem _)
  ·rw[List.getD_eq_getElem?_getD,List.getElem?_eq_none hi]; decide
 unfold kfL
 obtain⟨⟨i,_,e1⟩,j,_,e2⟩:=la (kpV tm R) ((kpV tm R).length-1)
 have l:=jC (kpV tm R) ((kpV tm R).length-1) 0 (by omega)
 have a:=g i
 have b:=g j
 rw[←e1] at a
 rw[←e2] at b
 omega
def mqN (f:Int→Int):Nat→Int
 |0=>100
 |i+1=>kmN (mqN f i) (f (i:Int))
def mqX (f:Int→Int):Nat→Int
 |0=>-100
 |i+1=>kmX (mqX f i) (f (i:Int))
theorem J0 {f:Int→Int} (hf:∀i:Nat,i<49→-16≤f (i:Int)∧f (i:Int)≤16):∀n,n≤49→(-100≤mqN f n∧mqN f n≤100)∧∀i,i<n→mqN f n≤f (i:Int)
 |0,_=>⟨by unfold mqN; omega,fun i h=>by omega⟩
 |n+1,hn=>by
  obtain⟨h1,h2⟩:=J0 hf n (by omega)
  have a:=hf n (by omega)
  have q:mqN f (n+1)≤mqN f n∧mqN f (n+1)≤f (n:Int)∧-100≤mqN f (n+1):=by rw[mqN]; unfold kmN; split<;>omega
  refine⟨by omega,fun i hi=>?_⟩
  rcases Nat.lt_or_ge i n with hi'|hi'
  ·have:=h2 i hi'; omega
  ·have:i=n:=by omega
   subst this; exact q.2.1
theorem J1 {f:Int→Int} (hf:∀i:Nat,i<49→-16≤f (i:Int)∧f (i:Int)≤16):∀n,n≤49→(-100≤mqX f n∧mqX f n≤100)∧∀i,i<n→f (i:Int)≤mqX f n
 |0,_=>⟨by unfold mqX; omega,fun i h=>by omega⟩
 |n+1,hn=>by
  obtain⟨h1,h2⟩:=J1 hf n (by omega)
  have a:=hf n (by omega)
  have q:mqX f n≤mqX f (n+1)∧f (n:Int)≤mqX f (n+1)∧mqX f (n+1)≤100:=by rw[mqX]; unfold kmX; split<;>omega
  refine⟨by omega,fun i hi=>?_⟩
  rcases Nat.lt_or_ge i n with hi'|hi'
  ·have:=h2 i hi'; omega
  ·have:i=n:=by omega
   subst this; exact q.2.1
theorem yh (f:Nat→Int):wsS (fun i=>f (sgm i)) 49=wsS f 49:=by
 simp only[wsS,sgm,Nat.reduceDiv,Nat.reduceMul,Nat.reduceMod,Nat.reduceAdd,Nat.reduceSub]
 omega
theorem J2 {V W:List Int} (h:∀i,i<49→W.getD i 0=V.getD (sgm i) 0):kfN kmN W 48=kfN kmN V 48∧kfN kmX W 48=kfN kmX V 48:=by
 have h':∀i,i<49→V.getD i 0=W.getD (sgm i) 0:=fun i hi=>by rw[h _ (dw hi).1,(dw hi).2.1]
 obtain⟨⟨i,hi,e1⟩,j,hj,e2⟩:=la W 48
 obtain⟨⟨i',hi',e1'⟩,j',hj',e2'⟩:=la V 48
 have s1:=(dw (show i<49 by omega)).1
 have s2:=(dw (show j<49 by omega)).1
 have s1':=(dw (show i'<49 by omega)).1
 have s2':=(dw (show j'<49 by omega)).1
 have a1:=(jC V 48 (sgm i) (by omega)).1
 have a2:=(jC V 48 (sgm j) (by omega)).2
 have b1:=(jC W 48 (sgm i') (by omega)).1
 have b2:=(jC W 48 (sgm j') (by omega)).2
 rw[h i (by omega)] at e1
 rw[h j (by omega)] at e2
 rw[h' i' (by omega)] at e1'
 rw[h' j' (by omega)] at e2'
 omega
theorem D8 {c d v w:List Int} (hc:WoC c) (hd:WoC d) (hv:WoI v) (hw:WoI w) (h1:∀i,i<49→d.getD i 0=c.getD (sgm i) 0) (h2:∀i,i<49→w.getD i 0=v.getD (sgm i) 0) {k:Int} (hk:1≤k∧k≤1000) {op:Int→Int→Int} (ho:op=kmN∨op=kmX) (how:Int):wmW op how d w k=wmW op how c v k:=by
 have hf:=J2 h2
 have e0:kfN op w 48=kfN op v 48:=by rcases ho with rfl|rfl; exact hf.1; exact hf.2
 have hb:-1048576≤kfN op v 48∧kfN op v 48≤1048576:=by
  obtain⟨⟨i,_,e1⟩,j,_,e2⟩:=la v 48
  rcases ho with rfl|rfl
  ·rw[e1]; exact hv.bd i
  ·rw[e2]; exact hv.bd j
 have hx:=wmulb (a:=k) (b:=kfN op v 48) (A:=1000) (B:=1048576) (by omega) hb (by omega)
 have eO:wmO op d w k=wmO op c v k:=by
  unfold wmO
  rw[hw.len,hv.len,hc.len,hd.len,show (49:Nat)-1=48 from rfl,e0,az (k*kfN op v 48) (by omega),(md hd hw (by omega) 49 (by omega)).1,(md hc hv (by omega) 49 (by omega)).1]
  congr 1
  rw[←yh (wcv c v)]
  exact nC 49 fun i hi=>by unfold wcv; rw[h1 i hi,h2 i hi]
 have eN:wmN d k=wmN c k:=by
  unfold wmN
  rw[hc.len,hd.len,me hd 49 (by omega),me hc 49 (by omega),←yh fun i=>c.getD i 0]
  rw[nC 49 fun i hi=>h1 i hi]
 unfold wmW
 rw[eO,eN]
def J3:List AVal→List AVal
 |.agg [a1,a2,a3,a4,a5,a6,a7,.nils,a9,a10]::r=>.agg [a1,a2,a3,a4,a5,a6,a7,.ro (.recd (.cons (.int .i64) (.cons (.int .i64) (.cons (.int .i64) .nil)))) [],a9,a10]::r
 |l=>l
theorem lb:∀l:List AVal,so l l
 | []=>trivial
 |c::r=>⟨fg.refl c,lb r⟩
theorem J4 (l:List AVal):so l (J3 l):=by
 unfold J3
 split
 ·exact⟨LH ⟨fg.refl _,fg.refl _,fg.refl _,fg.refl _,fg.refl _,fg.refl _,fg.refl _,n4 _,fg.refl _,fg.refl _,trivial⟩,lb _⟩
 ·exact lb _
noncomputable def PC:Fsp:=fun α args k=>DX α (J3 args) k
theorem J5:FspOk Tryz.prog 19 PC:=MV yf (fun α args k=>yf.nat α (J3 args) k) fun args _ hs=>⟨J3 args,hs,J4 args⟩
noncomputable def SL:FuncId→Option Fsp:=fun g=>
 if g=19 then some PC else
 fsF g
theorem NW:aI SL:=
 ae J5 <|
 lz
set_option maxRecDepth 100000 in
theorem J6 (α:Type) (k:AOut→Option α):am real tab ((twY SL spC).env real tab 20 30) 20 Tryz.f15 α [] k=k (b1 true):=by kernel_rfl
noncomputable def NX:Fsp:=fun _ args k=>match args with
 | []=>k (b1 true)
 |_=>none
theorem NY:FspOk Tryz.prog 15 NX:=ar NW dg ⟨Tryz.func15,fun _ _=>by kernel_rfl⟩ (by intro α args k; unfold NX; split<;>rfl) fun args out hSm hEq=>by
 unfold NX at hEq
 split at hEq
 ·exact⟨20,30,(J6 AOut some).trans hEq⟩
 ·cases hEq
noncomputable def NZ:FuncId→Option Fsp:=fun g=>
 if g=15 then some NX else
 if g=16 then some Du else
 if g=22 then some yd else
 if g=24 then some D6 else
 Q6 g
theorem N0:aI NZ:=
 ae NY <|
 ae IW <|
 ae ye <|
 ae JX <|
 D4
section
variable (pb po:List Int) (fl ke sw be we el:Int) (l:List BdI) (t n x y u v s:Int) (b:List BrI) (p q:Int)
noncomputable abbrev yi:Bool:=jB (-6553600000) (-6553600000) 6553600000 3 3 pb po fl ke sw be we el l (ccB t n x y u v s b p q)
noncomputable abbrev yj (m:Int):Int:=enE (-6553600000) (-6553600000) 6553600000 3 3 pb po fl ke sw be we el l t n x y u v s b p q m
noncomputable abbrev Ge (m:Int):List BdI:=enR (-6553600000) (-6553600000) 6553600000 3 3 pb po fl ke sw be we el l t n x y u v s b p q m
end
def mlB (b:BdI):BdI:=(b.1,b.2.1,((IntKind.i64.wrap (0-b.x),b.y,()),(b.u,b.v,()),IntKind.i64.wrap (0-b.s),()),b.o,())
def mlF {α:Type} (l:List BdI) (x:List BdI × Int × Unit):Option (LRes (List BdI × Int × Unit) α):=
 bif decide (x.2.1<(l.length:Int)) then
  if 0≤x.2.1∧x.2.1<(l.length:Int) then
   if (x.1.length+[mlB (l.getD x.2.1.toNat bdD)].length)*64≤room then some (.cont (x.1++[mlB (l.getD x.2.1.toNat bdD)],IntKind.i64.wrap (x.2.1+1),())) else none
  else none
 else some (.brk 2 (x.1,x.2.1,()))
def mtI (x:Int):Int:=IntKind.i64.wrap (IntKind.i64.wrap (IntKind.i64.wrap (IntKind.i64.wrap (x.tdiv 7)*7)+6)-x.tmod 7)
def mtF {α:Type} (c:List Int) (x:Int × List Int × Unit):Option (LRes (Int × List Int × Unit) α):=
 bif decide (x.1<(c.length:Int)) then
  if 0≤x.1∧x.1<(c.length:Int) then
   if 0≤mtI x.1∧mtI x.1<(x.2.1.length:Int) then some (.cont (IntKind.i64.wrap (x.1+1),x.2.1.set (mtI x.1).toNat (c.getD x.1.toNat 0),())) else none
  else none
 else some (.brk 4 (x.1,x.2.1,()))
def mqF {α:Type} (e lo hi:Int→Int) (c:List Int) (R:Option α) (x:Int × Int × Int × Unit):Option (LRes (Int × Int × Int × Unit) α):=
 bif decide (x.2.2.1<(c.length:Int)) then
  bif e x.2.2.1 != 0 then finL R else
  some (.cont (if lo x.2.2.1<x.1 then lo x.2.2.1 else x.1,if x.2.1<hi x.2.2.1 then hi x.2.2.1 else x.2.1,IntKind.i64.wrap (x.2.2.1+1),()))
 else some (.brk 6 (x.1,x.2.1,x.2.2.1,()))
def N1 {α:Type} (J' A Z A' Z' lo hi:Int) (k:AOut→Option α):Option α:=
 bif J'==0 then bif A'==A then bif Z'==Z then bif decide (IntKind.i64.wrap (lo*65536)≤A) then bif decide (A≤Z) then k (b1 (decide (Z≤IntKind.i64.wrap (hi*65536)))) else k (b1 false) else k (b1 false) else k (b1 false) else k (b1 false) else k (b1 false)
def miI {α:Type} (V:Int) (x:List Int × List Int × Int × Unit):Option (LRes (List Int × List Int × Int × Unit) α):=
 bif decide (x.2.2.1<((List.replicate (Int.toNat 9) (0:Int)).length:Int)) then
  if 0≤x.2.2.1∧x.2.2.1<(x.1.length:Int) then some (.cont (x.1.set x.2.2.1.toNat V,x.2.1,IntKind.i64.wrap (x.2.2.1+1),())) else none
 else some (.brk 0 (x.1,x.2.1,x.2.2.1,()))
theorem N2 {α:Type} (V:Int) (K:Nat→List Int × List Int × Int × Unit→Option α):ah (ag 60 (miI V) (List.replicate (Int.toNat 9) 0,List.replicate (Int.toNat 9) 0,0,())) K=K 0 (List.replicate 9 V,List.replicate 9 0,9,()):=by kernel_rfl
def moF {α:Type} (c:List Int) (R:Option α) (x:Int × Unit):Option (LRes (Int × Unit) α):=
 bif decide (x.1<([c].length:Int)) then
  if 0≤x.1∧x.1<([c].length:Int) then bif decide ((([c].getD x.1.toNat []).length:Int)>60) then finL R else some (.cont (IntKind.i64.wrap (x.1+1),())) else none
 else some (.brk 0 (x.1,()))
theorem N3 {α:Type} (c:List Int) (R:Option α) (K:Nat→Int × Unit→Option α):ah (ag 60 (moF c R) (0,())) K=bif decide ((c.length:Int)>60) then R else K 0 (1,()):=by
 refine (eA (f:=moF c R) (fun i:Nat=>((i:Int),())) 1 (fun _=>decide ((c.length:Int)>60)) R (fun i hi=>?_) (y:=(1,())) (b:=0) ?_ (by omega)).trans ?_
 ·have:i=0:=by omega
  subst this
  unfold moF
  rw[show decide ((((0:Nat):Int),()).1<([c].length:Int))=true from rfl,cond_true,if_pos ⟨Int.le_refl _,by show (0:Int)<1; omega⟩]
  rfl
 ·rfl
 ·cases decide ((c.length:Int)>60)<;>rfl
noncomputable def miT {α:Type} (N:Nat) (pb po:List Int) (fl ke sw be we:Int) (el:Int) (l:List BdI) (t n x y u v s:Int) (b:List BrI) (p q:Int) (c:List Int) (d tm:Int) (k:AOut→Option α):Option α:=
   bif woJ (yi pb po fl ke sw be we el l t n x y u v s b p q) (fun m=>yj pb po fl ke sw be we el l t n x y u v s b p q m) c d tm != 0 then
    bif woA (yi pb po fl ke sw be we el l t n x y u v s b p q) (fun m=>yj pb po fl ke sw be we el l t n x y u v s b p q m) (fun m=>kfL kmN (kpV tm (Ge pb po fl ke sw be we el l t n x y u v s b p q m))) c d tm==0 then k (b1 (woZ (yi pb po fl ke sw be we el l t n x y u v s b p q) (fun m=>yj pb po fl ke sw be we el l t n x y u v s b p q m) (fun m=>kfL kmX (kpV tm (Ge pb po fl ke sw be we el l t n x y u v s b p q m))) c d tm==0)) else k (b1 false)
   else
    ah (ag N (mlF l) ([],0,())) fun id y3=>if id=2 then
     if 0≤(c.length:Int)∧(c.length:Int)≤(c.length:Int)∧(c.length:Int)*((8:Nat):Int)≤(room:Int) then
      ah (ag N (mtF c) (0,List.replicate (c.length:Int).toNat 0,())) fun id y4=>if id=4 then
       ah (ag N (mqF (fun m=>epE (-6553600000) (-6553600000) 6553600000 3 3 pb po fl ke sw be we el l t n x y u v s b p q m tm) (fun m=>epP kmN (-6553600000) (-6553600000) 6553600000 3 3 pb po fl ke sw be we el l t n x y u v s b p q m tm) (fun m=>epP kmX (-6553600000) (-6553600000) 6553600000 3 3 pb po fl ke sw be we el l t n x y u v s b p q m tm) c (k (b1 false))) (100,-100,0,())) fun id y5=>if id=6 then
        N1 (woJ (yi pb po fl ke sw be we el y3.1 t n (IntKind.i64.wrap (0-x)) y (IntKind.i64.wrap (0-u)) v (IntKind.i64.wrap (0-s)) b p q) (fun m=>yj pb po fl ke sw be we el y3.1 t n (IntKind.i64.wrap (0-x)) y (IntKind.i64.wrap (0-u)) v (IntKind.i64.wrap (0-s)) b p q m) y4.2.1 d tm)
         (woA (yi pb po fl ke sw be we el l t n x y u v s b p q) (fun m=>yj pb po fl ke sw be we el l t n x y u v s b p q m) (fun m=>kfL kmN (kpV tm (Ge pb po fl ke sw be we el l t n x y u v s b p q m))) c d tm) (woZ (yi pb po fl ke sw be we el l t n x y u v s b p q) (fun m=>yj pb po fl ke sw be we el l t n x y u v s b p q m) (fun m=>kfL kmX (kpV tm (Ge pb po fl ke sw be we el l t n x y u v s b p q m))) c d tm)
         (woA (yi pb po fl ke sw be we el y3.1 t n (IntKind.i64.wrap (0-x)) y (IntKind.i64.wrap (0-u)) v (IntKind.i64.wrap (0-s)) b p q) (fun m=>yj pb po fl ke sw be we el y3.1 t n (IntKind.i64.wrap (0-x)) y (IntKind.i64.wrap (0-u)) v (IntKind.i64.wrap (0-s)) b p q m) (fun m=>kfL kmN (kpV tm (Ge pb po fl ke sw be we el y3.1 t n (IntKind.i64.wrap (0-x)) y (IntKind.i64.wrap (0-u)) v (IntKind.i64.wrap (0-s)) b p q m))) y4.2.1 d tm)
         (woZ (yi pb po fl ke sw be we el y3.1 t n (IntKind.i64.wrap (0-x)) y (IntKind.i64.wrap (0-u)) v (IntKind.i64.wrap (0-s)) b p q) (fun m=>yj pb po fl ke sw be we el y3.1 t n (IntKind.i64.wrap (0-x)) y (IntKind.i64.wrap (0-u)) v (IntKind.i64.wrap (0-s)) b p q m) (fun m=>kfL kmX (kpV tm (Ge pb po fl ke sw be we el y3.1 t n (IntKind.i64.wrap (0-x)) y (IntKind.i64.wrap (0-u)) v (IntKind.i64.wrap (0-s)) b p q m))) y4.2.1 d tm)
         y5.1 y5.2.1 k
       else none
      else none
     else none
    else none
set_option maxRecDepth 100000 in
theorem J7 (N n0:Nat) (α:Type) (cx cy sd w h:Int) (pb po:List Int) (fl ke sw be we:Int) (el:Int) (l:List BdI) (pp:Int) (t n x y u v s:Int) (b:List BrI) (p q:Int) (c:List Int) (d tm:Int) (k:AOut→Option α):am real tab ((twY NZ spL).env real tab N (n0+14)) N Tryz.f5 α [.agg [.int .i64 cx,.int .i64 cy,.int .i64 sd,.int .i64 w,.int .i64 h,.ro (.int .i64) pb,.ro (.int .i64) po,.int .i64 fl,.int .i64 ke,.int .i64 sw,.int .i64 be,.int .i64 we,.int .i64 el,.ro (.recd (.cons (.int .i64) (.cons (.int .i64) (.cons (.recd (.cons (.recd (.cons (.int .i64) (.cons (.int .i64) .nil))) (.cons (.recd (.cons (.int .i64) (.cons (.int .i64) .nil))) (.cons (.int .i64) .nil)))) (.cons .bool .nil))))) l],.int .u16 pp,.agg [.int .i64 t,.int .i64 n,.int .i64 x,.int .i64 y,.int .i64 u,.int .i64 v,.int .i64 s,.ro (.recd (.cons (.int .i64) (.cons (.int .i64) (.cons (.int .i64) .nil)))) b,.int .i64 p,.int .i64 q],.ro (.int .i64) c,.int .i64 d,.int .i64 tm] k =
  ah (ag N (miI ((IntKind.i64.wrap pp).tmod 1001)) (List.replicate (Int.toNat 9) 0,List.replicate (Int.toNat 9) 0,0,())) fun id y1=>if id=0 then
   bif sloB (-6553600000) (-6553600000) 6553600000 3 3 y1.1 y1.2.1 fl ke sw be we el l t n x y u v s b p q 40 3 then k (b1 true) else
   ah (ag N (moF c (k (b1 true))) (0,())) fun id _=>if id=0 then miT N y1.1 y1.2.1 fl ke sw be we el l t n x y u v s b p q c d tm k else none
  else none:=by kernel_rfl
theorem Gf (α:Type) (cx cy sd w h:Int) (pb po:List Int) (fl ke sw be we:Int) (el:Int) (l:List BdI) (pp:Int) (t n x y u v s:Int) (b:List BrI) (p q:Int) (c:List Int) (d tm:Int) (k:AOut→Option α):am real tab ((twY NZ spL).env real tab 60 14) 60 Tryz.f5 α [.agg [.int .i64 cx,.int .i64 cy,.int .i64 sd,.int .i64 w,.int .i64 h,.ro (.int .i64) pb,.ro (.int .i64) po,.int .i64 fl,.int .i64 ke,.int .i64 sw,.int .i64 be,.int .i64 we,.int .i64 el,.ro (.recd (.cons (.int .i64) (.cons (.int .i64) (.cons (.recd (.cons (.recd (.cons (.int .i64) (.cons (.int .i64) .nil))) (.cons (.recd (.cons (.int .i64) (.cons (.int .i64) .nil))) (.cons (.int .i64) .nil)))) (.cons .bool .nil))))) l],.int .u16 pp,.agg [.int .i64 t,.int .i64 n,.int .i64 x,.int .i64 y,.int .i64 u,.int .i64 v,.int .i64 s,.ro (.recd (.cons (.int .i64) (.cons (.int .i64) (.cons (.int .i64) .nil)))) b,.int .i64 p,.int .i64 q],.ro (.int .i64) c,.int .i64 d,.int .i64 tm] k =
  bif sloB (-6553600000) (-6553600000) 6553600000 3 3 (List.replicate 9 ((IntKind.i64.wrap pp).tmod 1001)) (List.replicate 9 0) fl ke sw be we el l t n x y u v s b p q 40 3 then k (b1 true) else
  bif decide ((c.length:Int)>60) then k (b1 true) else miT 60 (List.replicate 9 ((IntKind.i64.wrap pp).tmod 1001)) (List.replicate 9 0) fl ke sw be we el l t n x y u v s b p q c d tm k:=by
 refine (J7 60 0 α cx cy sd w h pb po fl ke sw be we el l pp t n x y u v s b p q c d tm k).trans ?_
 rw[N2,if_pos rfl,N3,if_pos rfl]
theorem N4 {c t:List Int} (hc:WoC c) (ht:t.length=49) (h:∀i,i<49→t.getD i 0=c.getD (sgm i) 0):WoC t:=by
 refine⟨ht,?_⟩
 unfold wcW
 rw[ht]
 show (!(List.range 49).any fun i=>!wcO (t.getD i 0))=true
 rw[Bool.not_eq_true',List.any_eq_false]
 intro i hi
 have:=yg hc.ok (sgm i)
 unfold wcO
 rw[h i (List.mem_range.1 hi),decide_eq_true this.1,decide_eq_true this.2]
 decide
theorem J8 {α:Type} {g g':Bool} {e e' lo hi lo' hi':Int→Int} {c t:List Int} {d tm:Int} (hV:woV g c d tm=true) (hg':g'=true) (hE:∀i:Nat,i<49→e (i:Int)=0) (hE':∀i:Nat,i<49→e' (i:Int)=0)
  (hl:∀i:Nat,i<49→lo' (i:Int)=lo ((sgm i:Nat):Int)) (hh:∀i:Nat,i<49→hi' (i:Int)=hi ((sgm i:Nat):Int)) (hb:∀i:Nat,i<49→-16≤lo (i:Int)∧lo (i:Int)≤hi (i:Int)∧hi (i:Int)≤16)
  (ht:t.length=49) (h:∀i,i<49→t.getD i 0=c.getD (sgm i) 0) {L M:Int} (hL:-100≤L∧L≤100) (hM:-100≤M∧M≤100) (hLM:∀i:Nat,i<49→L≤lo (i:Int)∧hi (i:Int)≤M) (k:AOut→Option α) :
  N1 (woJ g' e' t d tm) (woA g e lo c d tm) (woZ g e hi c d tm) (woA g' e' lo' t d tm) (woZ g' e' hi' t d tm) L M k=k (b1 true):=by
 obtain⟨h1,hC,hd,htm⟩:=Bf.1 hV
 have hT:WoC t:=N4 hC ht h
 have hV':woV g' t d tm=true:=Bf.2 ⟨hg',hT,hd,htm⟩
 have hb':∀i:Nat,i<49→-16≤lo' (i:Int)∧lo' (i:Int)≤hi' (i:Int)∧hi' (i:Int)≤16:=fun i hi_=>by
  rw[hl i hi_,hh i hi_]; exact hb _ (dw hi_).1
 obtain⟨w1,v1⟩:=pj (f:=lo) fun i hi_=>by have:=hb i hi_; omega
 obtain⟨w2,v2⟩:=pj (f:=hi) fun i hi_=>by have:=hb i hi_; omega
 obtain⟨w3,v3⟩:=pj (f:=lo') fun i hi_=>by have:=hb' i hi_; omega
 obtain⟨w4,v4⟩:=pj (f:=hi') fun i hi_=>by have:=hb' i hi_; omega
 have j1:woJ g e c d tm=0:=by unfold woJ; rw[hV]; exact JZ.2 hE
 have j2:woJ g' e' t d tm=0:=by unfold woJ; rw[hV']; exact JZ.2 hE'
 unfold woA woZ
 rw[j1,j2]
 have t1:=D8 hC hT w1 w3 h (fun i hi_=>by rw[v3 i hi_,v1 _ (dw hi_).1,hl i hi_]) hd (op:=kmN) (.inl rfl) 1
 have t2:=D8 hC hT w2 w4 h (fun i hi_=>by rw[v4 i hi_,v2 _ (dw hi_).1,hh i hi_]) hd (op:=kmX) (.inr rfl) 2
 have b:=Gd hC w1 w2 hd (L:=L*65536) (M:=M*65536) fun i hi_=>by
  have a:=hb i hi_
  have z:=hLM i hi_
  rw[v1 i hi_,v2 i hi_]; omega
 unfold N1
 simp only[beq_self_eq_true,cond_true]
 rw[t1,t2,beq_self_eq_true,beq_self_eq_true,az (L*65536) (by omega),az (M*65536) (by omega),decide_eq_true b.1,decide_eq_true b.2.1,decide_eq_true b.2.2]
 rfl
/-! The loops. -/
theorem Rc {α:Type} {l:List BdI} (hl:l.length≤16) (K:Nat→List BdI × Int × Unit→Option α):ah (ag 60 (mlF l) ([],0,())) K=K 2 (l.map mlB,(l.length:Int),()):=by
 have hroom:room≥10000:=by decide
 have hm:maxLen=9223372036854775807:=rfl
 have e:l.map mlB=fmL (fun _=>true) mlB bdD l l.length:=by rw[kF,List.filter_eq_self.2 fun _ _=>rfl]
 rw[e]
 refine aD (f:=mlF l) (fun i:Nat=>(fmL (fun _=>true) mlB bdD l i,(i:Int),())) l.length (fun i hi=>?_) ?_ (by omega)
 ·have h2:=jd (fun _=>true) mlB bdD l i
  unfold mlF
  simp only[a8 hi,cond_true,aQ hi,if_pos,and_self,decide_true,Int.toNat_natCast,ap hi (by omega),List.length_singleton,fmL]
  rw[if_pos (by omega)]
 ·unfold mlF
  simp only[ao,cond_false]
theorem vq {l:List BdI} (hs:br l=true) (hm:l.any mvg=false):l.map mlB=mbS l:=by
 refine List.map_congr_left fun b hb=>?_
 obtain⟨h1,h2⟩:=pO hs b hb
 have h3:ta b.1 b.2.1 b.x b.y b.u b.v b.s=true:=h1
 have hi:=dL.1 h3
 have u0:b.u=0:=by
  have:=List.any_eq_false.1 hm b hb
  unfold mvg at this
  cases ho:b.o
  ·rw[ho] at this
   simp only[Bool.not_false,Bool.true_and,Bool.and_true,Bool.not_eq_true',Bool.not_eq_false,Bool.and_eq_true,beq_iff_eq] at this
   exact this.1
  ·exact (h2 ho).1
 have a:=hi.x
 have s:=hi.sp
 unfold mlB mb
 rw[az (0-b.x) (by omega),az (0-b.s) (by omega),u0,Int.zero_sub,Int.zero_sub,Int.neg_zero]
def mtL (c:List Int):Nat→List Int
 |0=>List.replicate 49 0
 |i+1=>(mtL c i).set (sgm i) (c.getD i 0)
theorem pk (c:List Int):∀i,(mtL c i).length=49
 |0=>List.length_replicate
 |i+1=>by rw[mtL,List.length_set,pk c i]
theorem D9 (c:List Int):∀n,n≤49→∀j,j<49→(mtL c n).getD j 0=if sgm j<n then c.getD (sgm j) 0 else 0
 |0,_,j,hj=>by
  rw[if_neg (by omega),mtL,List.getD_eq_getElem?_getD,List.getElem?_replicate,if_pos hj]; rfl
 |n+1,hn,j,hj=>by
  have ih:=D9 c n (by omega) j hj
  have s1:=dw hj
  have s2:=dw (show n<49 by omega)
  rw[mtL,kh _ _ _ _ _ (by rw[pk]; exact s2.1)]
  by_cases h:j=sgm n
  ·have:sgm j=n:=by rw[h]; exact s2.2.1
   rw[if_pos h,if_pos (by omega),this]
  ·have:sgm j≠n:=fun q=>h (by rw[←q]; exact s1.2.1.symm)
   rw[if_neg h,ih]
   by_cases h2:sgm j<n
   ·rw[if_pos h2,if_pos (by omega)]
   ·rw[if_neg h2,if_neg (by omega)]
theorem Rd {i:Nat} (h:i<49):mtI (i:Int)=((sgm i:Nat):Int):=by
 unfold mtI sgm
 rw[Int.tdiv_eq_ediv_of_nonneg (by omega),Int.tmod_eq_emod_of_nonneg (by omega),az ((i:Int) / 7) (by omega),az ((i:Int) / 7*7) (by omega),az ((i:Int) / 7*7+6) (by omega),az _ (by omega)]
 omega
theorem Re {α:Type} {c:List Int} (hc:c.length=49) (K:Nat→Int × List Int × Unit→Option α):ah (ag 60 (mtF c) (0,List.replicate (c.length:Int).toNat 0,())) K=K 4 (((49:Nat):Int),mtL c 49,()):=by
 have e:List.replicate (c.length:Int).toNat (0:Int)=mtL c 0:=by rw[hc]; rfl
 rw[e]
 refine aD (f:=mtF c) (fun i:Nat=>((i:Int),mtL c i,())) 49 (fun i hi=>?_) ?_ (by omega)
 ·have s:=dw hi
  unfold mtF
  rw[hc]
  simp only[a8 hi,cond_true,aQ hi,if_pos,and_self,Int.toNat_natCast,ap hi (by decide),Rd hi,pk,aQ s.1]
  rfl
 ·unfold mtF
  rw[hc]
  simp only[ao,cond_false]
theorem Rf {α:Type} {e lo hi:Int→Int} {c:List Int} (hc:c.length=49) (he:∀i:Nat,i<49→e (i:Int)=0) (R:Option α) (K:Nat→Int × Int × Int × Unit→Option α):ah (ag 60 (mqF e lo hi c R) (100,-100,0,())) K=K 6 (mqN lo 49,mqX hi 49,((49:Nat):Int),()):=by
 refine aD (f:=mqF e lo hi c R) (fun i:Nat=>(mqN lo i,mqX hi i,(i:Int),())) 49 (fun i hi_=>?_) ?_ (by omega)
 ·unfold mqF
  rw[hc]
  simp only[a8 hi_,cond_true,he i hi_,ap hi_ (by decide)]
  rfl
 ·unfold mqF
  rw[hc]
  simp only[ao,cond_false]
/-! All of it. -/
def Rg {α:Type} (N:Nat) (G:Bool) (E lo hi eE eL eH:Int→Int) (G':List BdI→Bool) (E' L' H':List BdI→Int→Int) (l:List BdI) (c:List Int) (d tm:Int) (k:AOut→Option α):Option α:=
 bif woJ G E c d tm != 0 then
  bif woA G E lo c d tm==0 then k (b1 (woZ G E hi c d tm==0)) else k (b1 false)
 else
  ah (ag N (mlF l) ([],0,())) fun id y3=>if id=2 then
   if 0≤(c.length:Int)∧(c.length:Int)≤(c.length:Int)∧(c.length:Int)*((8:Nat):Int)≤(room:Int) then
    ah (ag N (mtF c) (0,List.replicate (c.length:Int).toNat 0,())) fun id y4=>if id=4 then
     ah (ag N (mqF eE eL eH c (k (b1 false))) (100,-100,0,())) fun id y5=>if id=6 then
      N1 (woJ (G' y3.1) (E' y3.1) y4.2.1 d tm) (woA G E lo c d tm) (woZ G E hi c d tm) (woA (G' y3.1) (E' y3.1) (L' y3.1) y4.2.1 d tm) (woZ (G' y3.1) (E' y3.1) (H' y3.1) y4.2.1 d tm) y5.1 y5.2.1 k
     else none
    else none
   else none
  else none
structure MiOk (E lo hi eE eL eH:Int→Int) (G':List BdI→Bool) (E' L' H':List BdI→Int→Int) (l:List BdI):Prop where
 len:l.length≤16
 g:G' (l.map mlB)=true
 e:∀i:Nat,i<49→eE (i:Int)=0∧eL (i:Int)=lo (i:Int)∧eH (i:Int)=hi (i:Int)
 m:∀i:Nat,i<49→E' (l.map mlB) (i:Int)=0∧L' (l.map mlB) (i:Int)=lo ((sgm i:Nat):Int)∧H' (l.map mlB) (i:Int)=hi ((sgm i:Nat):Int)
 b:∀i:Nat,i<49→-16≤lo (i:Int)∧lo (i:Int)≤hi (i:Int)∧hi (i:Int)≤16
theorem Gg {α:Type} {G:Bool} {E lo hi eE eL eH:Int→Int} {G':List BdI→Bool} {E' L' H':List BdI→Int→Int} {l:List BdI} {c:List Int} {d tm:Int} (H:G=true→(0≤tm∧tm≤1)→(∀i:Nat,i<49→E (i:Int)=0)→MiOk E lo hi eE eL eH G' E' L' H' l) (k:AOut→Option α):Rg 60 G E lo hi eE eL eH G' E' L' H' l c d tm k=k (b1 true):=by
 unfold Rg
 by_cases hJ0:woJ G E c d tm=0
 case neg=>
  have hJ':(woJ G E c d tm==0)=false:=beq_eq_false_iff_ne.2 hJ0
  rw[show (woJ G E c d tm != 0)=true from by rw[bne,hJ']; rfl]
  unfold woA woZ
  rw[hJ']; rfl
 rw[hJ0]
 have hV:woV G c d tm=true:=by
  cases hv:woV G c d tm
  ·unfold woJ at hJ0; rw[hv] at hJ0; exact absurd (show (2:Int)=0 from hJ0) (by decide)
  ·rfl
 have hE:∀i:Nat,i<49→E (i:Int)=0:=by
  unfold woJ at hJ0; rw[hV] at hJ0; exact JZ.1 hJ0
 obtain⟨hG,hC,hd,htm⟩:=Bf.1 hV
 have h:=H hG htm hE
 have hroom:room≥10000:=by decide
 rw[show ((0:Int) != 0)=false from rfl,cond_false,Rc h.len,if_pos rfl,if_pos (by rw[hC.len]; omega),Re hC.len,if_pos rfl,Rf hC.len (fun i hi=>(h.e i hi).1),if_pos rfl]
 have b1':∀i:Nat,i<49→-16≤eL (i:Int)∧eL (i:Int)≤16:=fun i hi=>by have:=h.b i hi; rw[(h.e i hi).2.1]; omega
 have b2':∀i:Nat,i<49→-16≤eH (i:Int)∧eH (i:Int)≤16:=fun i hi=>by have:=h.b i hi; rw[(h.e i hi).2.2]; omega
 have qN:=J0 b1' 49 (Nat.le_refl _)
 have qX:=J1 b2' 49 (Nat.le_refl _)
 have tl:=pk c 49
 have tg:∀i,i<49→(mtL c 49).getD i 0=c.getD (sgm i) 0:=fun i hi=>by rw[D9 c 49 (Nat.le_refl _) i hi,if_pos (dw hi).1]
 have qL:∀i:Nat,i<49→mqN eL 49≤lo (i:Int)∧hi (i:Int)≤mqX eH 49:=fun i hi=>⟨by rw[←(h.e i hi).2.1]; exact qN.2 i hi,by rw[←(h.e i hi).2.2]; exact qX.2 i hi⟩
 have q1:=qN.1
 have q2:=qX.1
 clear qN qX b1' b2'
 generalize mtL c 49=t at *
 generalize mqN eL 49=L at *
 generalize mqX eH 49=M at *
 have hm1:∀i:Nat,i<49→E' (l.map mlB) (i:Int)=0:=fun i hi=>(h.m i hi).1
 have hm2:∀i:Nat,i<49→L' (l.map mlB) (i:Int)=lo ((sgm i:Nat):Int):=fun i hi=>(h.m i hi).2.1
 have hm3:∀i:Nat,i<49→H' (l.map mlB) (i:Int)=hi ((sgm i:Nat):Int):=fun i hi=>(h.m i hi).2.2
 exact J8 (g':=G' (l.map mlB)) (e':=E' (l.map mlB)) (lo':=L' (l.map mlB)) (hi':=H' (l.map mlB)) (t:=t) (L:=L) (M:=M) hV h.g hE hm1 hm2 hm3 h.b tl tg q1 q2 qL k
section
variable (V fl ke sw be we el:Int) (l:List BdI) (t n x y u v s:Int) (b:List BrI) (p q:Int) (c:List Int) (d tm:Int)
theorem SM {α:Type} (k:AOut→Option α):miT 60 (List.replicate 9 V) (List.replicate 9 0) fl ke sw be we el l t n x y u v s b p q c d tm k=Rg 60 (jB (-6553600000) (-6553600000) 6553600000 3 3 (List.replicate 9 V) (List.replicate 9 0) fl ke sw be we el l (ccB t n x y u v s b p q)) (fun m=>enE (-6553600000) (-6553600000) 6553600000 3 3 (List.replicate 9 V) (List.replicate 9 0) fl ke sw be we el l t n x y u v s b p q m) (fun m=>kfL kmN (kpV tm (enR (-6553600000) (-6553600000) 6553600000 3 3 (List.replicate 9 V) (List.replicate 9 0) fl ke sw be we el l t n x y u v s b p q m))) (fun m=>kfL kmX (kpV tm (enR (-6553600000) (-6553600000) 6553600000 3 3 (List.replicate 9 V) (List.replicate 9 0) fl ke sw be we el l t n x y u v s b p q m))) (fun m=>epE (-6553600000) (-6553600000) 6553600000 3 3 (List.replicate 9 V) (List.replicate 9 0) fl ke sw be we el l t n x y u v s b p q m tm) (fun m=>epP kmN (-6553600000) (-6553600000) 6553600000 3 3 (List.replicate 9 V) (List.replicate 9 0) fl ke sw be we el l t n x y u v s b p q m tm) (fun m=>epP kmX (-6553600000) (-6553600000) 6553600000 3 3 (List.replicate 9 V) (List.replicate 9 0) fl ke sw be we el l t n x y u v s b p q m tm) (fun L=>jB (-6553600000) (-6553600000) 6553600000 3 3 (List.replicate 9 V) (List.replicate 9 0) fl ke sw be we el L (ccB t n (IntKind.i64.wrap (0-x)) y (IntKind.i64.wrap (0-u)) v (IntKind.i64.wrap (0-s)) b p q)) (fun L m=>enE (-6553600000) (-6553600000) 6553600000 3 3 (List.replicate 9 V) (List.replicate 9 0) fl ke sw be we el L t n (IntKind.i64.wrap (0-x)) y (IntKind.i64.wrap (0-u)) v (IntKind.i64.wrap (0-s)) b p q m) (fun L m=>kfL kmN (kpV tm (enR (-6553600000) (-6553600000) 6553600000 3 3 (List.replicate 9 V) (List.replicate 9 0) fl ke sw be we el L t n (IntKind.i64.wrap (0-x)) y (IntKind.i64.wrap (0-u)) v (IntKind.i64.wrap (0-s)) b p q m))) (fun L m=>kfL kmX (kpV tm (enR (-6553600000) (-6553600000) 6553600000 3 3 (List.replicate 9 V) (List.replicate 9 0) fl ke sw be we el L t n (IntKind.i64.wrap (0-x)) y (IntKind.i64.wrap (0-u)) v (IntKind.i64.wrap (0-s)) b p q m))) l c d tm k:=rfl
theorem TE (hG:jB (-6553600000) (-6553600000) 6553600000 3 3 (List.replicate 9 V) (List.replicate 9 0) fl ke sw be we el l (ccB t n x y u v s b p q)=true) (htm:0≤tm∧tm≤1) (hE:∀i:Nat,i<49→enE (-6553600000) (-6553600000) 6553600000 3 3 (List.replicate 9 V) (List.replicate 9 0) fl ke sw be we el l t n x y u v s b p q (i:Int)=0):MiOk (fun m=>enE (-6553600000) (-6553600000) 6553600000 3 3 (List.replicate 9 V) (List.replicate 9 0) fl ke sw be we el l t n x y u v s b p q m) (fun m=>kfL kmN (kpV tm (enR (-6553600000) (-6553600000) 6553600000 3 3 (List.replicate 9 V) (List.replicate 9 0) fl ke sw be we el l t n x y u v s b p q m))) (fun m=>kfL kmX (kpV tm (enR (-6553600000) (-6553600000) 6553600000 3 3 (List.replicate 9 V) (List.replicate 9 0) fl ke sw be we el l t n x y u v s b p q m))) (fun m=>epE (-6553600000) (-6553600000) 6553600000 3 3 (List.replicate 9 V) (List.replicate 9 0) fl ke sw be we el l t n x y u v s b p q m tm) (fun m=>epP kmN (-6553600000) (-6553600000) 6553600000 3 3 (List.replicate 9 V) (List.replicate 9 0) fl ke sw be we el l t n x y u v s b p q m tm) (fun m=>epP kmX (-6553600000) (-6553600000) 6553600000 3 3 (List.replicate 9 V) (List.replicate 9 0) fl ke sw be we el l t n x y u v s b p q m tm) (fun L=>jB (-6553600000) (-6553600000) 6553600000 3 3 (List.replicate 9 V) (List.replicate 9 0) fl ke sw be we el L (ccB t n (IntKind.i64.wrap (0-x)) y (IntKind.i64.wrap (0-u)) v (IntKind.i64.wrap (0-s)) b p q)) (fun L m=>enE (-6553600000) (-6553600000) 6553600000 3 3 (List.replicate 9 V) (List.replicate 9 0) fl ke sw be we el L t n (IntKind.i64.wrap (0-x)) y (IntKind.i64.wrap (0-u)) v (IntKind.i64.wrap (0-s)) b p q m) (fun L m=>kfL kmN (kpV tm (enR (-6553600000) (-6553600000) 6553600000 3 3 (List.replicate 9 V) (List.replicate 9 0) fl ke sw be we el L t n (IntKind.i64.wrap (0-x)) y (IntKind.i64.wrap (0-u)) v (IntKind.i64.wrap (0-s)) b p q m))) (fun L m=>kfL kmX (kpV tm (enR (-6553600000) (-6553600000) 6553600000 3 3 (List.replicate 9 V) (List.replicate 9 0) fl ke sw be we el L t n (IntKind.i64.wrap (0-x)) y (IntKind.i64.wrap (0-u)) v (IntKind.i64.wrap (0-s)) b p q m))) l:=by
 have hG':=hG
 unfold jB at hG'
 simp only[Bool.and_eq_true] at hG'
 obtain⟨hic,hg,hs,hcc,he⟩:=hG'
 have hB:=(Bc (hE 0 (by omega))).2.2.2.1
 unfold enB at hB
 simp only[Bool.and_eq_true,Bool.not_eq_true'] at hB
 have hm:=hB.1.2
 have hb:=(Pz hcc).1
 have hx:=hb.x
 have hu:=hb.sx
 have hsp:=hb.sp
 have e1:IntKind.i64.wrap (0-x)=-x:=by rw[az (0-x) (by omega)]; omega
 have e2:IntKind.i64.wrap (0-u)=-u:=by rw[az (0-u) (by omega)]; omega
 have e3:IntKind.i64.wrap (0-s)=-s:=by rw[az (0-s) (by omega)]; omega
 have eE:∀i:Nat,i<49→epE (-6553600000) (-6553600000) 6553600000 3 3 (List.replicate 9 V) (List.replicate 9 0) fl ke sw be we el l t n x y u v s b p q (i:Int) tm=0:=fun i hi=>by
  unfold epE epV enV
  rw[hG,hE i hi,decide_eq_true (show (0:Int)≤(i:Int) by omega),decide_eq_true (show (i:Int)≤48 by omega),decide_eq_true htm.1,decide_eq_true htm.2]; rfl
 have em:=fun (i:Nat) (hi:i<49)=>Q2 fl ke sw be we el V hic hg hcc hi (hE _ (dw hi).1)
 refine⟨(iK.1 hs).1,?_,fun i hi=>⟨eE i hi,?_,?_⟩,fun i hi=>⟨?_,?_,?_⟩,fun i hi=>Rb _ _⟩
 ·show jB (-6553600000) (-6553600000) 6553600000 3 3 (List.replicate 9 V) (List.replicate 9 0) fl ke sw be we el (l.map mlB) (ccB t n (IntKind.i64.wrap (0-x)) y (IntKind.i64.wrap (0-u)) v (IntKind.i64.wrap (0-s)) b p q)=true
  rw[vq hs hm,e1,e2,e3]
  unfold jB
  rw[kg,QY]
  exact hG
 ·show epP kmN (-6553600000) (-6553600000) 6553600000 3 3 (List.replicate 9 V) (List.replicate 9 0) fl ke sw be we el l t n x y u v s b p q (i:Int) tm=_
  unfold epP; rw[eE i hi]; rfl
 ·show epP kmX (-6553600000) (-6553600000) 6553600000 3 3 (List.replicate 9 V) (List.replicate 9 0) fl ke sw be we el l t n x y u v s b p q (i:Int) tm=_
  unfold epP; rw[eE i hi]; rfl
 ·show enE (-6553600000) (-6553600000) 6553600000 3 3 (List.replicate 9 V) (List.replicate 9 0) fl ke sw be we el (l.map mlB) t n (IntKind.i64.wrap (0-x)) y (IntKind.i64.wrap (0-u)) v (IntKind.i64.wrap (0-s)) b p q (i:Int)=0
  rw[vq hs hm,e1,e2,e3]
  exact (em i hi).1
 ·show kfL kmN (kpV tm (enR (-6553600000) (-6553600000) 6553600000 3 3 (List.replicate 9 V) (List.replicate 9 0) fl ke sw be we el (l.map mlB) t n (IntKind.i64.wrap (0-x)) y (IntKind.i64.wrap (0-u)) v (IntKind.i64.wrap (0-s)) b p q (i:Int)))=_
  rw[vq hs hm,e1,e2,e3,(em i hi).2,D3]
 ·show kfL kmX (kpV tm (enR (-6553600000) (-6553600000) 6553600000 3 3 (List.replicate 9 V) (List.replicate 9 0) fl ke sw be we el (l.map mlB) t n (IntKind.i64.wrap (0-x)) y (IntKind.i64.wrap (0-u)) v (IntKind.i64.wrap (0-s)) b p q (i:Int)))=_
  rw[vq hs hm,e1,e2,e3,(em i hi).2,D3]
theorem J9 {α:Type} (k:AOut→Option α):miT 60 (List.replicate 9 V) (List.replicate 9 0) fl ke sw be we el l t n x y u v s b p q c d tm k=k (b1 true):=(SM V fl ke sw be we el l t n x y u v s b p q c d tm k).trans (Gg (c:=c) (d:=d) (tm:=tm) (fun hG htm hE=>TE V fl ke sw be we el l t n x y u v s b p q tm hG htm hE) k)
end
theorem Gi (cx cy sd w h:Int) (pb po:List Int) (fl ke sw be we:Int) (el:Int) (l:List BdI) (pp:Int) (t n x y u v s:Int) (b:List BrI) (p q:Int) (c:List Int) (d tm:Int):am real tab ((twY NZ spL).env real tab 60 14) 60 Tryz.f5 AOut [.agg [.int .i64 cx,.int .i64 cy,.int .i64 sd,.int .i64 w,.int .i64 h,.ro (.int .i64) pb,.ro (.int .i64) po,.int .i64 fl,.int .i64 ke,.int .i64 sw,.int .i64 be,.int .i64 we,.int .i64 el,.ro (.recd (.cons (.int .i64) (.cons (.int .i64) (.cons (.recd (.cons (.recd (.cons (.int .i64) (.cons (.int .i64) .nil))) (.cons (.recd (.cons (.int .i64) (.cons (.int .i64) .nil))) (.cons (.int .i64) .nil)))) (.cons .bool .nil))))) l],.int .u16 pp,.agg [.int .i64 t,.int .i64 n,.int .i64 x,.int .i64 y,.int .i64 u,.int .i64 v,.int .i64 s,.ro (.recd (.cons (.int .i64) (.cons (.int .i64) (.cons (.int .i64) .nil)))) b,.int .i64 p,.int .i64 q],.ro (.int .i64) c,.int .i64 d,.int .i64 tm] some=some (b1 true):=by
 refine (Gf AOut cx cy sd w h pb po fl ke sw be we el l pp t n x y u v s b p q c d tm some).trans ?_
 rw[J9]
 generalize sloB (-6553600000) (-6553600000) 6553600000 3 3 (List.replicate 9 ((IntKind.i64.wrap pp).tmod 1001)) (List.replicate 9 0) fl ke sw be we el l t n x y u v s b p q 40 3=S
 cases S<;>cases decide ((c.length:Int)>60)<;>rfl
noncomputable def PD:List AVal→Option AOut
 | [.agg [.int .i64 cx,.int .i64 cy,.int .i64 sd,.int .i64 w,.int .i64 h,.ro (.int .i64) pb,.ro (.int .i64) po,.int .i64 fl,.int .i64 ke,.int .i64 sw,.int .i64 be,.int .i64 we,.int .i64 el,.ro (.recd (.cons (.int .i64) (.cons (.int .i64) (.cons (.recd (.cons (.recd (.cons (.int .i64) (.cons (.int .i64) .nil))) (.cons (.recd (.cons (.int .i64) (.cons (.int .i64) .nil))) (.cons (.int .i64) .nil)))) (.cons .bool .nil))))) l],.int .u16 pp,.agg [.int .i64 t,.int .i64 n,.int .i64 x,.int .i64 y,.int .i64 u,.int .i64 v,.int .i64 s,.ro (.recd (.cons (.int .i64) (.cons (.int .i64) (.cons (.int .i64) .nil)))) b,.int .i64 p,.int .i64 q],.ro (.int .i64) c,.int .i64 d,.int .i64 tm]=>some (b1 true)
 |_=>none
theorem N5:FspOk Tryz.prog 5 (gN PD):=ar N0 bJ ⟨Tryz.func5,fun _ _=>by kernel_rfl⟩ (nS _) fun args out hSm hq=>by
 replace hq:=lr hq
 unfold PD at hq
 split at hq
 ·rename_i cx cy sd w h pb po fl ke sw be we el l pp t n x y u v s b p q c d tm
  cases hq
  exact⟨60,14,Gi cx cy sd w h pb po fl ke sw be we el l pp t n x y u v s b p q c d tm⟩
 ·cases hq
end Go.Proofs.YtenolfpkkgcgcaaGreat
namespace Go.Proofs.YtenolfpkkgcgcaaGreat
def Ea:Sh:=.recd (.cons (.int .i64) (.cons (.int .i64) .nil))
def SN:Sh:=.recd (.cons Ea (.cons (.int .i64) (.cons (.int .i64) (.cons (.int .i64) (.cons (.sl (.int .i64)) (.cons (.sl (.int .i64)) .nil))))))
def SO:Sh:=.recd (.cons (.int .i64) (.cons (.int .i64) (.cons (.int .i64) (.cons (.int .i64) (.cons (.int .i64) .nil)))))
def PE:Sh:=.recd (.cons Ea (.cons Ea (.cons (.int .i64) .nil)))
def SP:Sh:=.recd (.cons (.int .i64) (.cons (.int .i64) (.cons (.int .i64) .nil)))
def SQ:Sh:=.recd (.cons (.int .i64) (.cons (.int .i64) (.cons PE (.cons .bool .nil))))
end Go.Proofs.YtenolfpkkgcgcaaGreat
