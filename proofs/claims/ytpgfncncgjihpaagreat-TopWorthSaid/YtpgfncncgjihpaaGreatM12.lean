/- Parts of the proof, in build order. -/
import Derived.Test.YtpgfncncgjihpaaGreatM11
import Derived.Maps.RangeRun
import Derived.Shelf.SlSortCmp.NoneTotal
import Derived.Test.YtpgfncncgjihpaaGreatM7
import Derived.Test.YtpgfncncgjihpaaGreatM10
namespace Go.Proofs.YtpgfncncgjihpaaGreat
open Go.RowKit
def dt (l:List RdI):Prop:=l.length≤16∧∀r∈l,0≤r.lo∧r.lo≤r.hi∧r.hi≤70368744177664
theorem Jx {l:List RdI} (h:dt l):0≤bk l∧bk l≤129368064:=by
 unfold bk
 have:∀(l:List RdI) (a:Int),(∀r∈l,0≤r.hi)→0≤a→a≤129368064→0≤l.foldl (fun a r=>min a r.hi) a∧l.foldl (fun a r=>min a r.hi) a≤129368064:=by
  intro l
  induction l with
  |nil=>intro a _ h1 h2; exact⟨h1,h2⟩
  |cons r l ih=>
   intro a hr h1 h2
   have:=hr r List.mem_cons_self
   exact ih _ (fun q hq=>hr q (List.mem_cons_of_mem _ hq)) (by show 0≤min a _; omega) (by show min a _≤_; omega)
 exact this l _ (fun r hr=>by have:=h.2 r hr; omega) (by omega) (by omega)
theorem Jy {l:List RdI} (h:dt l):0≤bg l∧bg l≤129368065:=by
 unfold bg
 have:∀(l:List RdI) (a:Int),(∀r∈l,0≤r.lo)→0≤a→a≤129368065→0≤l.foldl (fun a r=>min a r.lo) a∧l.foldl (fun a r=>min a r.lo) a≤129368065:=by
  intro l
  induction l with
  |nil=>intro a _ h1 h2; exact⟨h1,h2⟩
  |cons r l ih=>
   intro a hr h1 h2
   have:=hr r List.mem_cons_self
   exact ih _ (fun q hq=>hr q (List.mem_cons_of_mem _ hq)) (by show 0≤min a _; omega) (by show min a _≤_; omega)
 exact this l _ (fun r hr=>by have:=h.2 r hr; omega) (by omega) (by omega)
theorem dk {x:Int} (h0:-1≤x) (h1:x≤1000000000):IntKind.i64.wrap x=x:=by rw[IntKind.wrap_i64]; omega
theorem Be {α:Type} {N:Nat} (hN:20≤N) {s:List RdI} (hs:s.length≤16) (t d:Int) (m:ScM) (K:ScM→Option α):rnK N s t d m K=K (kZ s t d m):=by
 unfold rnK
 have hm:=x9 s d
 have hc:=vh s d
 have e1:max 1 (mustN s d)=if 1<mustN s d then mustN s d else 1:=by rw[Nat.max_def]; split<;>split<;>omega
 have e0:(if 1<(mustN s d:Int) then (mustN s d:Int) else 1)=((max 1 (mustN s d)+0:Nat):Int):=by rw[e1]; split<;>split<;>omega
 rw[e0]
 refine (aB (f:=rnF s t d) (fun i=>(sQ s t d m i,((max 1 (mustN s d)+i:Nat):Int),())) (yb s d) (fun i hi=>?_) (y:=(kZ s t d m,((max 1 (mustN s d)+yb s d:Nat):Int),())) (b:=4) ?_ (by unfold yb; omega)).trans rfl
 ·unfold yb at hi
  have h1:max 1 (mustN s d)+i≤40:=by omega
  have h2:max 1 (mustN s d)+i≤canN s d:=by omega
  show rnF s t d (sQ s t d m i,((max 1 (mustN s d)+i:Nat):Int),())=some (.cont (ya t ((max 1 (mustN s d)+i:Nat):Int) (sQ s t d m i),((max 1 (mustN s d)+i+1:Nat):Int),()))
  generalize max 1 (mustN s d)+i=q at h1 h2
  unfold rnF
  have e3:IntKind.i64.wrap ((q:Int)+1)=((q+1:Nat):Int):=by rw[dk (by omega) (by omega)]; omega
  show (bif decide ((q:Int)≤(canN s d:Int)) then some (LRes.cont (ya t (q:Int) (sQ s t d m i),IntKind.i64.wrap ((q:Int)+1),())) else _)=_
  rw[decide_eq_true (show (q:Int)≤(canN s d:Int) by omega),cond_true,e3]
 ·unfold rnF
  rw[decide_eq_false (show ¬((max 1 (mustN s d)+yb s d:Nat):Int)≤(canN s d:Int) by unfold yb; omega),cond_false]
  rfl
def Ns (o:List RdI) (d:Int):Bool:=decide (bg o≤d)&&decide (d≤bk o-1)
def inM (s o:List RdI) (t:Int) (m:ScM) (r:RdI) (j:Nat):ScM:=(([r.lo,r.hi].take j).filter (Ns o)).foldl (fun m d=>kZ s t d m) m
theorem Jz (s o:List RdI) (t:Int) (m:ScM) (r:RdI) {j:Nat} (hj:j<2):inM s o t m r (j+1)=bif Ns o ([r.lo,r.hi].getD j 0) then kZ s t ([r.lo,r.hi].getD j 0) (inM s o t m r j) else inM s o t m r j:=by
 unfold inM
 have:[r.lo,r.hi].take (j+1)=[r.lo,r.hi].take j++[[r.lo,r.hi].getD j 0]:=by
  match j,hj with
  |0,_=>rfl
  |1,_=>rfl
 rw[this,List.filter_append,List.foldl_append]
 generalize [r.lo,r.hi].getD j 0=q
 cases h:Ns o q
 ·rw[List.filter_cons_of_neg (by rw[h]; decide)]; rfl
 ·rw[List.filter_cons_of_pos h]; rfl
theorem QI {α:Type} {N:Nat} (hN:20≤N) {s o:List RdI} (hs:s.length≤16) (ho:dt o) (t:Int) (m:ScM) (i:Int) {j:Nat} (hj:j<2):inF (α:=α) N s o t i (inM s o t m (rdG s i) j,(j:Int),())=some (.cont (inM s o t m (rdG s i) (j+1),((j+1:Nat):Int),())):=by
 unfold inF
 have h1:=Jx ho
 simp only[decide_eq_true (show (j:Int)<2 by omega),cond_true,if_pos (show 0≤(j:Int)∧(j:Int)<((2:Nat):Int) by omega),dk (show -1≤bk o-1 by omega) (by omega),dk (show -1≤(j:Int)+1 by omega) (by omega)]
 rw[Jz s o t m _ hj]
 have e:dG s i (j:Int)=[(rdG s i).lo,(rdG s i).hi].getD j 0:=by unfold dG; rw[Int.toNat_natCast]
 rw[e,Be hN hs]
 unfold Ns
 cases decide (bg o≤[(rdG s i).lo,(rdG s i).hi].getD j 0)<;>cases decide ([(rdG s i).lo,(rdG s i).hi].getD j 0≤bk o-1)<;>rfl
theorem QJ {α:Type} {N:Nat} (hN:20≤N) {s o:List RdI} (hs:s.length≤16) (ho:dt o) (t:Int) (m:ScM) (i:Int) (K:Nat→ScS→Option α):ag (af N (inF N s o t i) (m,0,())) K=K 2 ((vk o (rdG s i)).foldl (fun m d=>kZ s t d m) m,2,()):=by
 refine (aB (f:=inF N s o t i) (fun j=>(inM s o t m (rdG s i) j,(j:Int),())) 2 (fun j hj=>QI hN hs ho t m i hj) (y:=(inM s o t m (rdG s i) 2,2,())) (b:=2) ?_ (by omega)).trans rfl
 unfold inF
 rw[decide_eq_false (show ¬((2:Nat):Int)<2 by omega),cond_false]
 rfl
def ouM (s o:List RdI) (t:Int) (m:ScM) (i:Nat):ScM:=((s.take i).flatMap (vk o)).foldl (fun m d=>kZ s t d m) m
theorem QK {α:Type} {N:Nat} (hN:20≤N) {s o:List RdI} (hs:s.length≤16) (ho:dt o) (t:Int) (m:ScM) {i:Nat} (hi:i<s.length):ouF (α:=α) N s o t (ouM s o t m i,(i:Int),())=some (.cont (ouM s o t m (i+1),((i+1:Nat):Int),())):=by
 unfold ouF
 simp only[aR hi,cond_true,aH hi,if_pos,and_self]
 rw[QJ hN hs ho]
 simp only[if_true]
 rw[dk (show -1≤(i:Int)+1 by omega) (by omega)]
 have e:ouM s o t m (i+1)=(vk o (rdG s (i:Int))).foldl (fun m d=>kZ s t d m) (ouM s o t m i):=by
  unfold ouM
  rw[iP s rdD hi,List.flatMap_append,List.foldl_append]
  unfold rdG
  rw[Int.toNat_natCast]
  simp[List.flatMap_cons]
 rw[e]
 rfl
theorem QL {α:Type} {N:Nat} (hN:20≤N) {s o:List RdI} (hs:s.length≤16) (ho:dt o) (t:Int) (m:ScM) (K:Nat→ScS→Option α):ag (af N (ouF N s o t) (m,0,())) K=K 0 ((s.flatMap (vk o)).foldl (fun m d=>kZ s t d m) m,(s.length:Int),()):=by
 refine (aB (f:=ouF N s o t) (fun i=>(ouM s o t m i,(i:Int),())) s.length (fun i hi=>QK hN hs ho t m hi) (y:=((s.flatMap (vk o)).foldl (fun m d=>kZ s t d m) m,(s.length:Int),())) (b:=0) ?_ (by omega)).trans rfl
 unfold ouF ouM
 simp only[ap,cond_false,List.take_length]
theorem JA {α:Type} {N:Nat} (hN:20≤N) {s o:List RdI} (hs:s.length≤16) (ho:dt o) (t:Int) (m:ScM) (K:ScM→Option α):teK N s o t m K=K (tmM s o t m):=by
 have h1:=Jy ho
 have hre:∀m,reK N s o t m K=K ((bif decide (bg o≤bk o) then (bg o-1)::s.flatMap (vk o) else []).foldl (fun m d=>kZ s t d m) m):=fun m=>by
  unfold reK
  by_cases h:bg o≤bk o
  ·rw[decide_eq_false (show ¬bg o>bk o by omega),decide_eq_true h,cond_false,cond_true,Be hN hs,dk (by omega) (by omega),QL hN hs ho]
   rfl
  ·rw[decide_eq_true (show bg o>bk o by omega),decide_eq_false h]
   rfl
 unfold teK tmM lims
 cases awB o
 ·rw[cond_false,cond_false,List.nil_append]; exact hre m
 ·rw[cond_true,cond_true,Be hN hs,hre]; rfl
theorem QN {α:Type} {N:Nat} (hN:20≤N) {a b:List RdI} (ha:dt a) (hb:dt b) (m:ScM) (K:ScM→Option α):alK N a b m K=K (tmM b a 1 (tmM a b 0 m)):=by
 unfold alK
 refine (aB (f:=teF N a b) (fun j=>(match j with|0=>m|1=>tmM a b 0 m|_=>tmM b a 1 (tmM a b 0 m),(j:Int),())) 2 (fun j hj=>?_) (y:=(tmM b a 1 (tmM a b 0 m),2,())) (b:=0) ?_ (by omega)).trans rfl
 ·match j,hj with
  |0,_=>
   show (if 0≤IntKind.i64.wrap (1-0)∧IntKind.i64.wrap (1-0)<((2:Nat):Int) then _ else none)=_
   rw[dk (show (-1:Int)≤1-0 by omega) (by omega),if_pos (by decide)]
   show teK N a b 0 m _=_
   rw[JA hN ha.1 hb]
   exact congrArg (fun z=>some (LRes.cont (tmM a b 0 m,z,()))) (dk (x:=0+1) (by decide) (by decide))
  |1,_=>
   show (if 0≤IntKind.i64.wrap (1-1)∧IntKind.i64.wrap (1-1)<((2:Nat):Int) then _ else none)=_
   rw[dk (show (-1:Int)≤1-1 by omega) (by omega),if_pos (by decide)]
   show teK N b a 1 (tmM a b 0 m) _=_
   rw[JA hN hb.1 ha]
   exact congrArg (fun z=>some (LRes.cont (tmM b a 1 (tmM a b 0 m),z,()))) (dk (x:=1+1) (by decide) (by decide))
 ·rfl
theorem QO {α:Type} {N:Nat} (hN:20≤N) {a b:List RdI} (ha:dt a) (hb:dt b) (K:ScM→Option α):scX N a b K=K (scM a b):=by
 unfold scX scM Nq oN
 simp only[QN hN ha hb]
 have e:((if bg a<bg b then bg b else bg a)≤if bk b<bk a then bk b else bk a)↔max (bg a) (bg b)≤min (bk a) (bk b):=by
  have e1:(if bg a<bg b then bg b else bg a)=max (bg a) (bg b):=by split<;>omega
  have e2:(if bk b<bk a then bk b else bk a)=min (bk a) (bk b):=by split<;>omega
  rw[e1,e2]
 rw[decide_eq_decide.2 e]
 cases awB a<;>cases awB b<;>cases decide (max (bg a) (bg b)≤min (bk a) (bk b))<;>rfl
theorem QP {l:List RdI} {n:Int} (hr:qb n l=true) (k:Nat):0≤bLo l k:=by
 have hv:∀r∈l,0≤r.lo:=fun r hm=>by
  unfold qb at hr
  rw[Bool.not_eq_true',List.any_eq_false] at hr
  have:=hr r hm
  cases h:kJ n r
  ·rw[h] at this; exact absurd rfl this
  ·unfold kJ at h
   simp only[Bool.and_eq_true,decide_eq_true_eq] at h
   exact h.2.1
 unfold bLo
 have:∀(l:List RdI) (a:Int),(∀r∈l,0≤r.lo)→0≤a→0≤l.foldl (fun a r=>if r.1=(k:Int) then max a r.lo else a) a:=by
  intro l
  induction l with
  |nil=>intro a _ h; exact h
  |cons r l ih=>
   intro a hr h
   have:=hr r List.mem_cons_self
   exact ih _ (fun q hq=>hr q (List.mem_cons_of_mem _ hq)) (by show 0≤(if r.1=(k:Int) then max a r.lo else a); split<;>omega)
 exact this l 0 hv (by omega)
theorem QQ (l:List RdI) (k:Nat):bHi l k≤70368744177664:=by
 unfold bHi
 have:∀(l:List RdI) (a:Int),a≤70368744177664→l.foldl (fun a r=>if r.1=(k:Int) then min a r.hi else a) a≤70368744177664:=by
  intro l
  induction l with
  |nil=>intro a h; exact h
  |cons r l ih=>intro a h; exact ih _ (by show (if r.1=(k:Int) then min a r.hi else a)≤_; split<;>omega)
 exact this l _ (by omega)
theorem JB {l:List RdI} {n:Nat} (h:iQ n l=0):(aW n l).length≤16∧∀k,k<n→0≤((aW n l).getD k rdD).lo∧((aW n l).getD k rdD).lo≤((aW n l).getD k rdD).hi∧((aW n l).getD k rdD).hi≤70368744177664:=by
 unfold iQ at h
 cases h1:decide (l.length≤256)
 ·rw[h1] at h; cases h
 rw[h1,cond_true] at h
 cases h2:nB (n:Int)&&qb (n:Int) l
 ·rw[h2] at h; cases h
 rw[h2,cond_true,Int.toNat_natCast] at h
 cases h3:x8 n l
 ·rw[Bool.and_eq_true] at h2
  have hn:=h2.1
  unfold nB at hn
  rw[Bool.and_eq_true,decide_eq_true_eq,decide_eq_true_eq] at hn
  refine⟨by rw[dA]; omega,fun k hk=>?_⟩
  rw[jC n l hk]
  unfold x8 at h3
  rw[List.any_eq_false] at h3
  have:=h3 k (List.mem_range.2 hk)
  rw[decide_eq_true_eq] at this
  exact⟨QP h2.2 k,by show bLo l k≤bHi l k; omega,QQ l k⟩
 ·rw[h3] at h; cases h
theorem DK {l:List SnI} {r:List RdI} (h:bZ l r=0) (t:Int):dt (tmL l (aW l.length r) t):=by
 unfold bZ at h
 cases h1:decide (r.length≤256)
 ·rw[h1] at h; cases h
 rw[h1,cond_true] at h
 cases h2:eG l
 ·rw[h2] at h; cases h
 rw[h2,cond_true] at h
 obtain⟨g1,g2⟩:=JB h
 rw[dA] at g1
 refine⟨Nat.le_trans (pe _ _ _ _) g1,fun x hx=>?_⟩
 unfold tmL tmN at hx
 obtain⟨k,hk,rfl⟩:=List.mem_map.1 hx
 exact g2 k (List.mem_range.1 (List.mem_filter.1 hk).1)
abbrev lV:Sh:=.recd (.cons (.int .i64) (.cons (.int .i64) (.cons (.recd (.cons (.int .i64) (.cons (.int .i64) .nil))) .nil)))
def fA:Code→Code|.seq _ b=>b|c=>c
def vp:Code→Code|.seq a _=>a|c=>c
def QR:Code→Code|.block _ c=>c|.loop c=>c|c=>c
def ye:Code→Array Oper|.region _ o _=>o|_=>#[]
def cW (ops : Array Oper) (i : Nat) : Oper := (ops[i]?).getD { dst := none, op := .move (.tmp 0), type := 0, pos := "", after := #[], guard := none }
noncomputable def scC:Code:=(Tryz.f82.body).getD .ret
noncomputable def sR0:Code:=vp scC
noncomputable def sR1:Code:=vp (fA scC)
noncomputable def sC2:Code:=vp (fA (fA scC))
noncomputable def sR4:Code:=vp (fA (fA (fA scC)))
noncomputable def sF5:Code:=vp (fA (fA (fA (fA scC))))
noncomputable def sO5:Array Oper:=ye (vp sF5)
noncomputable def sLp:Code:=QR (QR (fA sF5))
noncomputable def sO6:Array Oper:=ye (vp sLp)
noncomputable def sBl:Code:=QR (fA (fA sLp))
noncomputable def sO7:Array Oper:=ye (vp sBl)
noncomputable def sR8:Code:=fA sBl
noncomputable def sO9:Array Oper:=ye (vp (fA (fA (fA (fA (fA scC))))))
noncomputable def yf:Code:=fA (fA (fA (fA (fA (fA scC)))))
theorem QS:scC=.seq sR0 (.seq sR1 (.seq sC2 (.seq sR4 (.seq (.seq (.region 5 sO5 false) (.block 0 (.loop sLp))) (.seq (.region 9 sO9 false) yf))))):=by kernel_rfl
theorem QT:sLp=.seq (.region 6 sO6 false) (.seq (.cond (.tmp 25) .skip (.exit 0)) (.block 1 (.seq (.region 7 sO7 false) sR8))):=by kernel_rfl
theorem JC:sO5[0]?=some (cW sO5 0)∧(cW sO5 0).guard=none∧(cW sO5 0).dst=some 21:=⟨by kernel_rfl,by kernel_rfl,by kernel_rfl⟩
theorem JD:sO5[1]?=some (cW sO5 1)∧(cW sO5 1).guard=none∧(cW sO5 1).dst=some 22:=⟨by kernel_rfl,by kernel_rfl,by kernel_rfl⟩
theorem DL:sO5[2]?=some (cW sO5 2)∧(cW sO5 2).guard=none∧(cW sO5 2).dst=some 23∧(cW sO5 2).op=.range 212 (.tmp 22):=⟨by kernel_rfl,by kernel_rfl,by kernel_rfl,by kernel_rfl⟩
theorem tI:sO6[0]?=some (cW sO6 0)∧(cW sO6 0).guard=none∧(cW sO6 0).dst=some 24∧(cW sO6 0).op=.next (.tmp 23) false:=⟨by kernel_rfl,by kernel_rfl,by kernel_rfl,by kernel_rfl⟩
theorem oq:sO6[1]?=some (cW sO6 1)∧(cW sO6 1).guard=none∧(cW sO6 1).dst=some 25∧(cW sO6 1).op=.extract (.tmp 24) 0:=⟨by kernel_rfl,by kernel_rfl,by kernel_rfl,by kernel_rfl⟩
theorem DM:sO7[0]?=some (cW sO7 0)∧(cW sO7 0).guard=none∧(cW sO7 0).dst=some 26∧(cW sO7 0).op=.entry (.tmp 23):=⟨by kernel_rfl,by kernel_rfl,by kernel_rfl,by kernel_rfl⟩
theorem DN:sO9[0]?=some (cW sO9 0)∧(cW sO9 0).guard=none∧(cW sO9 0).dst=some 32∧(cW sO9 0).op=.move (.tmp 9):=⟨by kernel_rfl,by kernel_rfl,by kernel_rfl,by kernel_rfl⟩
theorem JE:sO9[1]?=some (cW sO9 1)∧(cW sO9 1).guard=none∧(cW sO9 1).dst=some 33∧(cW sO9 1).op=.call { callee:=.value (.func 136),args:=#[.tmp 32,.func 137],argTypes:=#[152,215] }:=⟨by kernel_rfl,by kernel_rfl,by kernel_rfl,by kernel_rfl⟩
theorem jD:sO5.size=3∧sO6.size=2∧sO7.size=4∧sO9.size=2:=⟨by kernel_rfl,by kernel_rfl,by kernel_rfl,by kernel_rfl⟩
noncomputable def Nt:Fsp:=fun _ args k=>match args with
 | [.ro (.recd (.cons (.int .i64) (.cons (.int .i64) (.cons (.recd (.cons (.int .i64) (.cons (.int .i64) .nil))) .nil)))) l,.ro (.recd (.cons (.int .i64) (.cons (.int .i64) (.cons (.int .i64) .nil)))) r]=>bif bZ l r==0 then k (.ret (.tup [.ro bp (aW l.length r),.agg [.ro bp (tmL l (aW l.length r) 0),.ro bp (tmL l (aW l.length r) 1)],.int .i64 0])) else none
 |_=>none
theorem Nu:FspOk Tryz.prog 134 Nt where
 enter:=gK.enter
 nat:=by intro α args k; unfold Nt; split<;>simp only[ak,Option.bind_some,Option.bind_none]
 calls:=fun args out hout=>gK.calls args out (by
  unfold Nt at hout
  unfold FX
  split at hout
  ·rename_i l r
   cases h:bZ l r==0
   ·rw[h] at hout; cases hout
   ·rw[h] at hout; simp only[h,cond_true] at hout ⊢; exact hout
  ·cases hout)
noncomputable def DP:FuncId→Option Fsp:=fun g=>if g=134 then some Nt else nj g
theorem yg:aD DP:=ae Nu eY
def aN (l:List (Nat × AVal)):List AVal:=l.foldl (fun t p=>t.set p.1 p.2) (List.replicate 35 .any)
abbrev s38 (xs:List ScI):ABlk:=.row true 156 bB xs
def SV (l:List SnI) (r b x y:List RdI):List AVal:=[.ro lV l,.ro bp r,.undef,.undef,.own 0,.int .i64 0,.ro bp b,.op 3 0,.int .i64 0,.undef,.undef,.tup [.ro bp b,.agg [.ro bp x,.ro bp y],.int .i64 0],.ro lV l,.ro bp r,.tup [.ro bp b,.agg [.ro bp x,.ro bp y],.int .i64 0],.ro bp b,.agg [.ro bp x,.ro bp y],.int .i64 0]++List.replicate 17 .undef
def lW (x y:List RdI):List ABlk:=[s38 [],.row true 207 bp [],.row true 207 bp [],.box true [.ro bp x,.ro bp y]]
set_option maxRecDepth 100000 in
theorem SW (N n0:Nat) (l:List SnI) (r:List RdI):ev real tab ((twY DP de).env real tab N n0) N sR0 ⟨[.ro lV l,.ro bp r]++List.replicate 33 .undef,[]⟩ aO=some (.normal,⟨[.ro lV l,.ro bp r,.undef,.undef,.own 0,.int .i64 0]++List.replicate 29 .undef,[s38 []]⟩):=by kernel_rfl
set_option maxRecDepth 100000 in
theorem QU (N n0:Nat) (l:List SnI) (r:List RdI):ev real tab ((twY DP de).env real tab N n0) N sR1 ⟨[.ro lV l,.ro bp r,.undef,.undef,.own 0,.int .i64 0]++List.replicate 29 .undef,[s38 []]⟩ aO =
 bif bZ l r==0 then some (.normal,⟨SV l r (aW l.length r) (tmL l (aW l.length r) 0) (tmL l (aW l.length r) 1),lW (tmL l (aW l.length r) 0) (tmL l (aW l.length r) 1)⟩) else none:=by kernel_rfl
set_option maxRecDepth 100000 in
theorem SX (N n0:Nat) (x y:List RdI):ev real tab ((twY nj de).env real tab N n0) N sC2 ⟨aN [(7,.op 3 0),(8,.int .i64 0)],lW x y⟩ aO=some (.normal,⟨aN [(7,.op 3 0),(8,.int .i64 0),(18,.int .i64 0),(19,.bool false)],lW x y⟩):=by kernel_rfl
set_option maxRecDepth 100000 in
theorem SY (N n0:Nat) (x y:List RdI):ev real tab ((twY nj de).env real tab N n0) N sR4 ⟨aN [(7,.op 3 0)],lW x y⟩ aO=some (.normal,⟨aN [(7,.op 3 0),(9,.own 4)],lW x y++[s38 []]⟩):=by kernel_rfl
set_option maxRecDepth 100000 in
theorem QV (N n0:Nat) (x y:List RdI):kT real tab ((twY nj de).env real tab N n0) false (cW sO5 0) ⟨aN [(7,.op 3 0),(9,.own 4)],lW x y++[s38 []]⟩ (fun x v s=>some (x,v,s))=some (.normal,.agg [.ro bp x,.ro bp y],⟨aN [(7,.op 3 0),(9,.own 4)],lW x y++[s38 []]⟩):=by kernel_rfl
def yh (m:ScM):List ABlk:=[s38 [],.dead,.row true 212 (.mp bB .bool) m,.dead]
set_option maxRecDepth 100000 in
theorem Nv (N n0:Nat) (α:Type) (x y:List RdI) (k:AExit→AVal→AS→Option α):kT real tab ((twY nj de).env real tab N (n0+14)) false (cW sO5 1) ⟨aN [(9,.own 0),(21,.agg [.ro bp x,.ro bp y])],[s38 []]⟩ k =
 scX N x y fun m=>k .normal (.own 2) ⟨aN [(9,.own 0),(21,.agg [.ro bp x,.ro bp y])],yh m⟩:=by kernel_rfl
theorem QW (n0:Nat) {x y:List RdI} (hx:dt x) (hy:dt y):kT real tab ((twY nj de).env real tab 20 (n0+14)) false (cW sO5 1) ⟨aN [(9,.own 0),(21,.agg [.ro bp x,.ro bp y])],[s38 []]⟩ (fun x v s=>some (x,v,s)) =
 some (.normal,.own 2,⟨aN [(9,.own 0),(21,.agg [.ro bp x,.ro bp y])],yh (scM x y)⟩):=(Nv 20 n0 _ x y _).trans (QO (Nat.le_refl _) hx hy _)
def scQ (t n:Int):AVal:=.agg [.int .i64 t,.int .i64 n]
set_option maxRecDepth 100000 in
theorem SZ (N n0:Nat) (t n:Int) (xs:List ScI):ce real tab ((twY nj de).env real tab N n0) false sO7 sO7.toList.tail ⟨aN [(9,.own 0),(26,.tup [scQ t n,.any])],[s38 xs]⟩ aO =
 some (.normal,⟨aN [(9,.own 0),(26,.tup [scQ t n,.any]),(27,scQ t n),(10,.op 1 0)],[s38 xs,.box true [.int .i64 t,.int .i64 n]]⟩):=by kernel_rfl
set_option maxRecDepth 100000 in
theorem QX (N n0:Nat) (xs:List ScI):ev real tab ((twY nj de).env real tab N n0) N yf ⟨aN [(9,.ro bB xs)],[.dead]⟩ aO=some (.ret,⟨aN [(9,.ro bB xs),(34,.ro bB xs),(4,.ro bB xs),(5,.int .i64 0)],[.dead]⟩):=by kernel_rfl
open Go.ChangeMaps (setBlock)
noncomputable def sO8:Array Oper:=ye sR8
theorem QY:sR8=.region 8 sO8 false:=by kernel_rfl
set_option maxRecDepth 100000 in
theorem QZ (N n0:Nat) (t n:Int) (xs:List ScI):ce real tab ((twY nj de).env real tab N n0) false sO8 sO8.toList ⟨aN [(9,.own 0),(10,.op 1 0)],[s38 xs,.box true [.int .i64 t,.int .i64 n]]⟩ aO =
 if (xs.length+[(t,n,())].length)*16≤room then some (.normal,⟨aN [(9,.own 3),(10,.op 1 0),(28,.own 0),(29,scQ t n),(30,.own 2),(31,.own 3)],[.dead,.box true [.int .i64 t,.int .i64 n],s38 [(t,n,())],s38 (xs++[(t,n,())])]⟩) else none:=by kernel_rfl
theorem S3 (N n0:Nat) (t n:Int) {xs:List ScI} (hx:xs.length≤1000):ce real tab ((twY nj de).env real tab N n0) false sO8 sO8.toList ⟨aN [(9,.own 0),(10,.op 1 0)],[s38 xs,.box true [.int .i64 t,.int .i64 n]]⟩ aO =
 some (.normal,⟨aN [(9,.own 3),(10,.op 1 0),(28,.own 0),(29,scQ t n),(30,.own 2),(31,.own 3)],[.dead,.box true [.int .i64 t,.int .i64 n],s38 [(t,n,())],s38 (xs++[(t,n,())])]⟩):=by
 rw[QZ,if_pos (by simp only[room,List.length_cons,List.length_nil]; omega)]
theorem JF:∀(i:Nat) o,sO7[i]?=some o→o.dst≠some 23:=fun i o h=>by
 have:sO7.toList.all (fun o=>o.dst != some 23)=true:=by kernel_rfl
 have hm:o∈sO7.toList:=List.mem_of_getElem? (by rw[Array.getElem?_toList]; exact h)
 have:=List.all_eq_true.1 this o hm
 intro e; rw[e] at this; exact absurd this (by decide)
theorem JG:∀(i:Nat) o,sO8[i]?=some o→o.dst≠some 23:=fun i o h=>by
 have:sO8.toList.all (fun o=>o.dst != some 23)=true:=by kernel_rfl
 have hm:o∈sO8.toList:=List.mem_of_getElem? (by rw[Array.getElem?_toList]; exact h)
 have:=List.all_eq_true.1 this o hm
 intro e; rw[e] at this; exact absurd this (by decide)
def aM (e:MapEntry):ScI:=match e.key with
 |.agg arr=>match arr.toList with
  | [.int _ a,.int _ b]=>(a,b,())
  |_=>(0,0,())
 |_=>(0,0,())
theorem vq:∀x:bB.ty,∀c∈bB.cells x,c.flat0=true:=fun x c hc=>by
 have:bB.cells x=[.int .i64 x.1,.int .i64 x.2.1]:=rfl
 rw[this] at hc
 rcases List.mem_cons.1 hc with rfl|hc
 ·rfl
 ·rw[List.mem_singleton.1 hc]; rfl
theorem DQ:∀x:bp.ty,∀c∈bp.cells x,c.flat0=true:=fun x c hc=>by
 have:bp.cells x=[.int .i64 x.1,.int .i64 x.2.1,.int .i64 x.2.2.1]:=rfl
 rw[this] at hc
 rcases List.mem_cons.1 hc with rfl|hc
 ·rfl
 ·rcases List.mem_cons.1 hc with rfl|hc
  ·rfl
  ·rw[List.mem_singleton.1 hc]; rfl
theorem F0 {h g w} {q:bB.ty} {e:MapEntry} (r:Rep h g w (bB.val q) e.key):aM e=q∧e.key=.agg #[.int .i64 q.1,.int .i64 q.2.1]:=by
 have hv:bB.val q=.agg [.int .i64 q.1,.int .i64 q.2.1]:=rfl
 rw[hv] at r
 have hk:e.key=.agg #[.int .i64 q.1,.int .i64 q.2.1]:=by
  generalize e.key=k at r
  cases r with
  |agg _ arr hl hr=>
   obtain⟨L⟩:=arr
   match L,hl with
   | [x,y],_=>
     have h0:=hr 0 _ x rfl rfl
     have h1:=hr 1 _ y rfl rfl
     cases h0; cases h1; rfl
 refine⟨?_,hk⟩
 unfold aM; rw[hk]; rfl
def LpI (K0:Nat→Prop) (g0:Gh) (w0:World) (r0 bm:Nat) (es:Array MapEntry) (clock:Nat) (ts:List MapEntry) (a:Act) (w:World):Prop:=
 ∃K g,Mid K0 g0 w0 [s38 (ts.map aM)] (aN [(9,.own 0)]) a w K g∧a.tmps.getD 23 Go.undef=.pointer (some ⟨r0,0,none⟩)∧¬K r0∧¬g.M r0∧an (g.ρ 0)≠some r0∧K bm∧r0<w.heap.size ∧
  w.heap[r0]?=some (.mapIter (some bm) clock (ts.map (·.born)).toArray clock)∧w.heap[bm]?=some (.map es clock)∧(∀e∈ts,e∈es.toList)∧(ts.map (·.born)).Nodup
def F1 (r0:Nat) (es:Array MapEntry) (w:World):Nat:=match w.heap[r0]? with
 |some (.mapIter _ _ seen _)=>(leftOf es seen).size
 |_=>0
theorem JH {g:Gh} {b:ABlk} {r:Nat} (h:an (g.ρ 0)≠some r):∀i,alive [b] i→an (g.ρ i)≠some r:=fun i ⟨c,hc,_⟩=>by
 cases i with
 |zero=>exact h
 |succ i=>simp at hc
theorem tJ {P:Program} (arr:Array Value) (i:Nat) (v:Value) (w:World) (h:arr[i]?=some v):(Instr.extract (.tuple arr) i).run P w=.ok v w:=by
 simp[Instr.extract,h]
theorem JI {es:Array MapEntry} {seen:List Nat} {e:MapEntry} (h:e∈(leftOf es seen.toArray).toList):e∈es.toList∧e.born ∉ seen:=by
 unfold leftOf at h
 rw[Array.mem_toList_iff,Array.mem_filter] at h
 refine⟨by rw[Array.mem_toList_iff]; exact h.1,fun hm=>?_⟩
 have:=h.2
 simp[hm] at this
theorem JJ {K0:Nat→Prop} {g0:Gh} {w0:World} {r0 bm:Nat} {es:Array MapEntry} {clock:Nat} (hold:∀x∈es.toList,x.born<clock) (hnd:(es.toList.map (·.born)).Nodup) (hsz:es.size≤1000)
  (hkey:∀e∈es.toList,e.key=.agg #[.int .i64 (aM e).1,.int .i64 (aM e).2.1]) {Q:Exit→Act→World→Prop}
  (hQ:∀ts a w,LpI K0 g0 w0 r0 bm es clock ts a w→(leftOf es (ts.map (·.born)).toArray).size=0→Q (.exit 0) a w) {ts:List MapEntry} {a:Act} {w:World} (hI:LpI K0 g0 w0 r0 bm es clock ts a w) :
  WpR Tryz.prog sLp (Exit.then (fun a' w'=>(∃ts,LpI K0 g0 w0 r0 bm es clock ts a' w')∧F1 r0 es w'<F1 r0 es w) Q) a w:=by
 obtain⟨K,g,m,hit,h1,h2,h3,hK,hr,hri,hmb,hts,htn⟩:=hI
 have hts35:a.tmps.size=35:=m.tr.1.symm
 have hbr:bm≠r0:=fun e=>h1 (e▸hK)
 rw[QT]
 refine di (cL ?_)
 rw[jD.2.1]
 show wpOpsIn (FW none) 0 Tryz.prog sO6 _ [0,1] a w
 refine aZ tI.1 tI.2.1 ?_
 have hev:a.eval (.tmp 23)=.pointer (some ⟨r0,0,none⟩):=hit
 rcases run_next_at (P:=Tryz.prog) w (cW sO6 0).type r0 bm clock clock (ts.map (·.born)).toArray es clock hri hmb hold (Nat.le_refl _) with ⟨hz,hrun⟩|⟨e,he,w1,hw1,hrun⟩
 ·refine bX (x:=.tuple #[.bool false]) (w':=w) (by simp[execOp,tI.2.2.2,hev,hrun,Result.andThen]) ?_
  rw[tI.2.2.1]
  refine aZ oq.1 oq.2.1 ?_
  have he2:(a.put (some 24) (.tuple #[.bool false])).eval (.tmp 24)=.tuple #[.bool false]:=aQ a 24 _ (by omega)
  refine bX (x:=.bool false) (w':=w) (by simp[execOp,oq.2.2.2,he2,tJ #[.bool false] 0 (.bool false) w rfl,Result.andThen]) ?_
  rw[oq.2.2.1]
  have hm2:Mid K0 g0 w0 [s38 (ts.map aM)] (aN [(9,.own 0)]) ((a.put (some 24) (.tuple #[.bool false])).put (some 25) (.bool false)) w K g:=(m.put (some 24) (.any _)).put (some 25) (.any _)
  refine di (lR (t:=false) (aQ (a.put (some 24) (.tuple #[.bool false])) 25 (.bool false) (by rw[cQ]; omega)) (I8 ?_))
  refine hQ ts _ w ⟨K,g,hm2,?_,h1,h2,h3,hK,hr,hri,hmb,hts,htn⟩ hz
  rw[bS _ _ _ (by decide),bS _ _ _ (by decide)]; exact hit
 ·obtain⟨he1,he2⟩:=JI he
  have hw1s:w1.heap=w.heap:=by rcases hw1 with rfl|rfl<;>rfl
  refine bX (x:=.tuple #[.bool true,e.key,e.val]) (w':=setBlock w1 r0 (.mapIter (some bm) clock ((ts.map (·.born)).toArray.push e.born) clock)) (by simp[execOp,tI.2.2.2,hev,hrun,Result.andThen]) ?_
  rw[tI.2.2.1]
  generalize hw2:setBlock w1 r0 (.mapIter (some bm) clock ((ts.map (·.born)).toArray.push e.born) clock)=w2
  have hw2h:w2.heap=w.heap.setIfInBounds r0 (.mapIter (some bm) clock ((ts.map (·.born)).toArray.push e.born) clock):=by rw[←hw2,←hw1s]; rfl
  have hw2o:w2.os=w.os∧w2.tape=w.tape∧w2.output=w.output:=by rw[←hw2]; rcases hw1 with rfl|rfl<;>exact⟨rfl,rfl,rfl⟩
  have hw2s:w2.heap.size=w.heap.size:=by rw[hw2h,Array.size_setIfInBounds]
  have hw2n:∀n,n≠r0→w2.heap[n]?=w.heap[n]?:=fun n hn=>by rw[hw2h,Array.getElem?_setIfInBounds,if_neg (Ne.symm hn)]
  have hw2r:w2.heap[r0]?=some (.mapIter (some bm) clock ((ts++[e]).map (·.born)).toArray clock):=by
   rw[hw2h,Array.getElem?_setIfInBounds,if_pos rfl,if_pos hr,List.map_append,List.map_cons,List.map_nil,List.push_toArray]
  clear hrun hw2 hw2h
  have m1:=m.turn (w':=w2) (r:=r0) hw2o.1 hw2o.2.1 hw2o.2.2 (by omega) (fun n _ hn=>hw2n n hn) h1 h2 (JH h3)
  refine aZ oq.1 oq.2.1 ?_
  have he3:(a.put (some 24) (.tuple #[.bool true,e.key,e.val])).eval (.tmp 24)=.tuple #[.bool true,e.key,e.val]:=aQ a 24 _ (by omega)
  refine bX (x:=.bool true) (w':=w2) (by simp[execOp,oq.2.2.2,he3,tJ #[.bool true,e.key,e.val] 0 (.bool true) w2 rfl,Result.andThen]) ?_
  rw[oq.2.2.1]
  have m2:Mid K0 g0 w0 [s38 (ts.map aM)] (aN [(9,.own 0)]) ((a.put (some 24) (.tuple #[.bool true,e.key,e.val])).put (some 25) (.bool true)) w2 K g:=(m1.put (some 24) (.any _)).put (some 25) (.any _)
  refine di (lR (t:=true) (aQ (a.put (some 24) (.tuple #[.bool true,e.key,e.val])) 25 (.bool true) (by rw[cQ]; omega)) (xW ?_))
  have hit2:((a.put (some 24) (.tuple #[.bool true,e.key,e.val])).put (some 25) (.bool true)).tmps.getD 23 Go.undef=.pointer (some ⟨r0,0,none⟩):=by
   rw[bS _ _ _ (by decide),bS _ _ _ (by decide)]; exact hit
  generalize (a.put (some 24) (.tuple #[.bool true,e.key,e.val])).put (some 25) (.bool true)=a2 at m2 hit2
  have ha2:a2.tmps.size=35:=m2.tr.1.symm
  -- the round's body
  refine tE (di (cL ?_))
  rw[jD.2.2.1]
  show wpOpsIn (FW none) 0 Tryz.prog sO7 _ (0::List.range' 1 3) a2 w2
  refine aZ DM.1 DM.2.1 ?_
  have hev2:a2.eval (.tmp 23)=.pointer (some ⟨r0,0,none⟩):=hit2
  have hen:=run_entry_at (P:=Tryz.prog) w2 r0 bm clock (ts.map (·.born)).toArray es clock e (by rw[hw2r,List.map_append,List.map_cons,List.map_nil,List.push_toArray]) ((hw2n bm hbr).trans hmb) he1 hnd
  refine bX (x:=.tuple #[e.key,e.val]) (w':=w2) (by simp[execOp,DM.2.2.2,hev2,hen,Result.andThen]) ?_
  rw[DM.2.2.1]
  have rk:Rep [s38 (ts.map aM)] g w2 (.tup [scQ (aM e).1 (aM e).2.1,.any]) (.tuple #[e.key,e.val]):=by
   refine .tup _ _ rfl fun j c x hc hx=>?_
   match j with
   |0=>
    simp at hc hx; subst hc; subst hx
    rw[hkey e he1]
    refine .agg _ _ rfl fun j c x hc hx=>?_
    match j with
    |0=>simp at hc hx; subst hc; subst hx; exact .int _ _
    |1=>simp at hc hx; subst hc; subst hx; exact .int _ _
    |j+2=>simp at hc
   |1=>simp at hc hx; subst hc; exact .any _
   |j+2=>simp at hc
  have m3:=(m2.put (some 26) rk).lock (r:=r0) (by omega) (JH h3)
  have e7:sO7.toList.tail.length=3:=by rw[List.length_tail,Array.length_toList,jD.2.2.1]
  rw[←e7]
  refine xY bP (bT bG bP (eV eY a8) 0 0) (List.drop_one (l:=sO7.toList)) (SZ 0 0 (aM e).1 (aM e).2.1 (ts.map aM)) JF (show Mid K0 g0 w0 [s38 (ts.map aM)] (aN [(9,.own 0),(26,.tup [scQ (aM e).1 (aM e).2.1,.any])]) _ w2 _ g from m3) fun a4 w4 g4 l4 d4 f4 m4=>?_
  have m5:Mid K0 g0 w0 [s38 (ts.map aM),.box true [.int .i64 (aM e).1,.int .i64 (aM e).2.1]] (aN [(9,.own 0),(10,.op 1 0)]) a4 w4 _ g4:=m4.weak [9,10]
  show WpR Tryz.prog sR8 _ a4 w4
  rw[QY]
  refine cL ?_
  have e8:List.range sO8.size=List.range' 0 sO8.toList.length:=by rw[List.range_eq_range',Array.length_toList]
  rw[e8]
  have hlen:ts.length≤es.size:=by
   have:=List.Nodup.length_le_of_subset htn (l₂:=es.toList.map (·.born)) fun x hx=>by
    obtain⟨q,hq,rfl⟩:=List.mem_map.1 hx
    exact List.mem_map.2 ⟨q,hts q hq,rfl⟩
   simpa using this
  refine xY bP (bT bG bP (eV eY a8) 0 0) (i:=0) List.drop_zero (S3 0 0 (aM e).1 (aM e).2.1 (xs:=ts.map aM) (by rw[List.length_map]; omega)) JG m5 fun a6 w6 g6 l6 d6 f6 m6=>?_
  -- put together
  have l46:=l4.trans l6
  have e3:(((a2.put (some 26) (.tuple #[e.key,e.val])).tmps).getD 23 Go.undef)=.pointer (some ⟨r0,0,none⟩):=by rw[bS _ _ _ (by decide)]; exact hit2
  have own3:([.dead,.box true [.int .i64 (aM e).1,.int .i64 (aM e).2.1],s38 [((aM e).1,(aM e).2.1,())],s38 (ts.map aM++[((aM e).1,(aM e).2.1,())])]:List ABlk)[3]?=some (s38 (ts.map aM++[((aM e).1,(aM e).2.1,())])):=rfl
  have r9:=m6.tr.get 9
  have v9:a6.tmps.getD 9 Go.undef=g6.ρ 3∧(a6.tmps.getD 9 Go.undef).oneCell'=true:=by
   have:(aN [(9,.own 3),(10,.op 1 0),(28,.own 0),(29,scQ (aM e).1 (aM e).2.1),(30,.own 2),(31,.own 3)]).getD 9 .any=.own 3:=rfl
   rw[this] at r9
   generalize a6.tmps.getD 9 Go.undef=v at r9
   cases r9 with|own _ _ _ hc hv=>exact⟨hv _ _ _ _ own3,hc⟩
  have ne9:an (g6.ρ 3)≠some r0:=fun hb=>(m6.st.sep 3 r0 ⟨_,own3,by simp⟩ hb).1 (.inr rfl)
  have nM:¬g6.M r0:=fun hM=>(l46.new r0 hM).elim h2 fun h=>h (.inr rfl)
  have m7:=m6.one (i:=3) (e:=bB) (by decide) vq own3 (tm':=aN [(9,.own 0)]) ⟨by rw[←m6.tr.1]; rfl,fun j c x hc hx=>?_⟩
  ·have df6:fC K0 K g6 w6 a6.defers:=by rw[d6,d4,eO]; exact m2.df.mono (l46.less fun b hb=>.inl hb)
   have m8:=m7.unlock (K:=K) (fun b hb=>.inl hb) m.kk df6
   have hr6:w6.heap[r0]?=some (.mapIter (some bm) clock ((ts++[e]).map (·.born)).toArray clock):=(l46.k r0 (.inr rfl)).trans hw2r
   have hsz6:=l46.size
   show (∃ts,LpI K0 g0 w0 r0 bm es clock ts a6 w6)∧F1 r0 es w6<F1 r0 es w
   refine⟨⟨ts++[e],K,⟨fun _=>g6.ρ 3,g6.M⟩,?_,f6.trans (f4.trans e3),h1,nM,ne9,hK,by omega,hr6,(l46.k bm (.inl hK)).trans ((hw2n bm hbr).trans hmb),fun q hq=>?_,?_⟩,?_⟩
   ·rw[List.map_append]; exact m8
   ·rcases List.mem_append.1 hq with h|h
    ·exact hts q h
    ·rw[List.mem_singleton.1 h]; exact he1
   ·rw[List.map_append,List.nodup_append]
    refine⟨htn,by simp,fun x hx y hy=>?_⟩
    simp at hy
    subst hy
    rintro rfl
    exact he2 hx
   ·unfold F1
    rw[hr6,hri]
    simp only
    have:=left_shrinks es (ts.map (·.born)).toArray e he
    rw[List.map_append,List.map_cons,List.map_nil,←List.push_toArray]
    exact this
  ·have hj:j<35:=by
    have:=(List.getElem?_eq_some_iff.1 hc).1
    exact this
   by_cases e9:j=9
   ·subst e9
    have hc':c=.own 0:=by
     have:(aN [(9,.own 0)])[9]?=some (AVal.own 0):=rfl
     rw[this] at hc; cases hc; rfl
    subst hc'
    have hx':a6.tmps.getD 9 Go.undef=x:=by rw[Array.getD_eq_getD_getElem?,hx]; rfl
    rw[←hx']
    exact .own 0 _ (cm.of (b:=s38 (ts.map aM++[((aM e).1,(aM e).2.1,())])) rfl (by simp)) v9.2 fun _ _ _ _ _=>v9.1
   ·have hc':c=.any:=by
     have:∀j,j<35→j≠9→(aN [(9,.own 0)])[j]?=some AVal.any:=fun j hj h9=>by
      show ((List.replicate 35 AVal.any).set 9 (.own 0))[j]?=_
      rw[List.getElem?_set,if_neg (Ne.symm h9),List.getElem?_replicate,if_pos hj]
     rw[this j hj e9] at hc; cases hc; rfl
    subst hc'
    exact .any x
end Go.Proofs.YtpgfncncgjihpaaGreat
namespace Go.Proofs.YtpgfncncgjihpaaGreat
open Go.RowKit Go.Shelf Go.Sort
def qj:Go.Shelf.Ren:=⟨fun|6=>136|15=>183|14=>182|28=>219|29=>220|20=>211|21=>212|22=>213|23=>214|24=>215|25=>216|26=>217|27=>218|46=>242|47=>243|48=>244|49=>245|50=>246|57=>264|n=>n,fun|22=>152|24=>156|25=>215|3=>3|39=>195|0=>0|53=>293|55=>134|4=>4|46=>287|45=>286|50=>245|5=>5|9=>9|66=>309|70=>312|76=>332|77=>95|n=>n,fun|n=>n⟩
theorem JK:Go.Proofs.SlLaysF0.n6 Tryz.prog qj:={
 mixed:=by kernel_rfl,
 f6:=⟨Tryz.f136.name,by decide,Tryz.func136.trans (congrArg some (by kernel_rfl))⟩,
 f14:=⟨Tryz.f182.name,by decide,Tryz.func182.trans (congrArg some (by kernel_rfl))⟩,
 f15:=Tryz.func183.trans (congrArg some (by kernel_rfl)),
 f20:=⟨Tryz.f211.name,by decide,Tryz.func211.trans (congrArg some (by kernel_rfl))⟩,
 f21:=⟨Tryz.f212.name,by decide,Tryz.func212.trans (congrArg some (by kernel_rfl))⟩,
 f22:=⟨Tryz.f213.name,by decide,Tryz.func213.trans (congrArg some (by kernel_rfl))⟩,
 f23:=⟨Tryz.f214.name,by decide,Tryz.func214.trans (congrArg some (by kernel_rfl))⟩,
 f24:=⟨Tryz.f215.name,by decide,Tryz.func215.trans (congrArg some (by kernel_rfl))⟩,
 f25:=⟨Tryz.f216.name,by decide,Tryz.func216.trans (congrArg some (by kernel_rfl))⟩,
 f26:=⟨Tryz.f217.name,by decide,Tryz.func217.trans (congrArg some (by kernel_rfl))⟩,
 f27:=⟨Tryz.f218.name,by decide,Tryz.func218.trans (congrArg some (by kernel_rfl))⟩,
 f28:=Tryz.func219.trans (congrArg some (by kernel_rfl)),
 f29:=Tryz.func220.trans (congrArg some (by kernel_rfl)),
 f46:=⟨Tryz.f242.name,by decide,Tryz.func242.trans (congrArg some (by kernel_rfl))⟩,
 f47:=Tryz.func243.trans (congrArg some (by kernel_rfl)),
 f48:=Tryz.func244.trans (congrArg some (by kernel_rfl)),
 f49:=⟨Tryz.f245.name,by decide,Tryz.func245.trans (congrArg some (by kernel_rfl))⟩,
 f50:=⟨Tryz.f246.name,by decide,Tryz.func246.trans (congrArg some (by kernel_rfl))⟩,
 f57:=⟨Tryz.f264.name,by decide,Tryz.func264.trans (congrArg some (by kernel_rfl))⟩,
 t0:=Tryz.underlying0,
 a0:=Tryz.isAgg0,
 z0:=Tryz.sizeOf0,
 v0:=Tryz.zeroValue0,
 t3:=Tryz.underlying3,
 a3:=Tryz.isAgg3,
 z3:=Tryz.sizeOf3,
 v3:=Tryz.zeroValue3,
 t4:=Tryz.underlying4,
 a4:=Tryz.isAgg4,
 z4:=Tryz.sizeOf4,
 v4:=Tryz.zeroValue4,
 t5:=Tryz.underlying5,
 a5:=Tryz.isAgg5,
 z5:=Tryz.sizeOf5,
 v5:=Tryz.zeroValue5,
 t9:=Tryz.underlying9,
 a9:=Tryz.isAgg9,
 z9:=Tryz.sizeOf9,
 v9:=Tryz.zeroValue9,
 t22:=Tryz.underlying152,
 a22:=Tryz.isAgg152,
 z22:=Tryz.sizeOf152,
 v22:=Tryz.zeroValue152,
 t25:=Tryz.underlying215,
 a25:=Tryz.isAgg215,
 z25:=Tryz.sizeOf215,
 v25:=Tryz.zeroValue215,
 t39:=Tryz.underlying195,
 a39:=Tryz.isAgg195,
 z39:=Tryz.sizeOf195,
 v39:=Tryz.zeroValue195,
 t45:=Tryz.underlying286,
 a45:=Tryz.isAgg286,
 z45:=Tryz.sizeOf286,
 v45:=Tryz.zeroValue286,
 t46:=Tryz.underlying287,
 a46:=Tryz.isAgg287,
 z46:=Tryz.sizeOf287,
 v46:=Tryz.zeroValue287,
 t50:=Tryz.underlying245,
 a50:=Tryz.isAgg245,
 z50:=Tryz.sizeOf245,
 v50:=Tryz.zeroValue245,
 t53:=Tryz.underlying293,
 a53:=Tryz.isAgg293,
 z53:=Tryz.sizeOf293,
 v53:=Tryz.zeroValue293,
 t55:=Tryz.underlying134,
 a55:=Tryz.isAgg134,
 z55:=Tryz.sizeOf134,
 v55:=Tryz.zeroValue134,
 t66:=Tryz.underlying309,
 a66:=Tryz.isAgg309,
 z66:=Tryz.sizeOf309,
 v66:=Tryz.zeroValue309,
 t70:=Tryz.underlying312,
 a70:=Tryz.isAgg312,
 z70:=Tryz.sizeOf312,
 v70:=Tryz.zeroValue312,
 t76:=Tryz.underlying332,
 a76:=Tryz.isAgg332,
 z76:=Tryz.sizeOf332,
 v76:=Tryz.zeroValue332,
 t77:=Tryz.underlying95,
 a77:=Tryz.isAgg95,
 z77:=Tryz.sizeOf95,
 v77:=Tryz.zeroValue95 }
abbrev ScQ:={ p:Int × Int // -1≤p.1∧p.1≤1∧0≤p.2∧p.2≤1000 }
instance:Inhabited ScQ:=⟨⟨(0,0),by decide⟩⟩
def cR (x:ScQ):List Value:=[.int .i64 x.1.1,.int .i64 x.1.2]
def hJ (x y:ScQ):Int:=if x.1.1=y.1.1 then x.1.2-y.1.2 else x.1.1-y.1.1
theorem Nw (x y:ScQ):ltOf hJ x y=true↔x.1.1<y.1.1∨(x.1.1=y.1.1∧x.1.2<y.1.2):=by
 unfold ltOf hJ
 rw[decide_eq_true_eq]
 split<;>omega
theorem DR (x y:ScQ):ltOf hJ x y=false↔¬(x.1.1<y.1.1∨(x.1.1=y.1.1∧x.1.2<y.1.2)):=by
 rw[←Nw]; simp
theorem S5:SWO (ltOf hJ) where
 irrefl x:=by rw[DR]; omega
 trans x y z h1 h2:=by rw[Nw] at *; omega
 ntrans x y z h1 h2:=by rw[DR] at *; omega
theorem PS (x y:ScQ) (h1:ltOf hJ x y=false) (h2:ltOf hJ y x=false):x=y:=by
 rw[DR] at h1 h2
 apply Subtype.ext
 apply Prod.ext<;>omega
set_option maxHeartbeats 1000000 in
theorem Q2 (x y:ScQ) (W:World):Calls Tryz.prog 137 #[.agg #[.int .i64 x.1.1,.int .i64 x.1.2],.agg #[.int .i64 y.1.1,.int .i64 y.1.2]] W fun e w'=>e=.returned (.int .i64 (hJ x y))∧∃q os',w'=grow (W.drewN q) os':=by
 obtain⟨⟨x1,x2⟩,hx⟩:=x
 obtain⟨⟨y1,y2⟩,hy⟩:=y
 simp only at hx hy ⊢
 have w1:wrap64 (x1-y1)=x1-y1:=by unfold wrap64; omega
 have w2:wrap64 (x2-y2)=x2-y2:=by unfold wrap64; omega
 by_cases h:x1=y1
 ·have e:hJ ⟨(x1,x2),hx⟩ ⟨(y1,y2),hy⟩=x2-y2:=by unfold hJ; simp[h]
  rw[e]
  clear hx hy w1 e
  subst h
  go_enter Tryz.func137,Tryz.ntmps137
  go_wp2
  go_ret
  exact⟨congrArg (fun z=>Ending.returned (.int .i64 z)) w2,0,_,by rw[alloc_eq_grow,alloc_eq_grow,grow_grow]; rfl⟩
 ·have e:hJ ⟨(x1,x2),hx⟩ ⟨(y1,y2),hy⟩=x1-y1:=by unfold hJ; simp[h]
  rw[e]
  have hn:(x1==y1)=false:=by simpa using h
  clear hx hy w2 e
  go_enter Tryz.func137,Tryz.ntmps137
  go_wp2
  go_ret
  exact⟨congrArg (fun z=>Ending.returned (.int .i64 z)) w1,0,_,by rw[alloc_eq_grow,alloc_eq_grow,grow_grow]; rfl⟩
theorem S6 (blk off size:Nat) (w:World):CmpLays Tryz.prog 137 #[] cR 2 hJ blk off size w:=fun _ _ _ _ x y=>Q2 x y _
theorem Ny (blk c:Nat) (d:Array ScQ) (w:World) (hH:HoldsK cR 2 w blk 0 d) (hblk:blk<w.heap.size) (hsz:d.size<4611686018427387904) :
  Calls Tryz.prog 136 #[.slice (some ⟨blk,0,none⟩) d.size c,.func (.func 137) #[] #[]] w fun e w'=>
   e=.returned (.tuple #[])∧∃n os,w'=sortWorldK cR 2 w blk 0 n (d.toList.mergeSort fun x y=>!(ltOf hJ) y x).toArray os:=
 AnyQ.slices_SortFunc_total JK 2 Tryz.isAgg156 Tryz.sizeOf156 cR (fun _=>rfl) (fun x v hv=>by simp[cR] at hv; rcases hv with rfl|rfl<;>rfl) hJ S5 137 #[] blk 0 c d w
  (enters_of Tryz.func137 (by kernel_rfl) rfl) (S6 blk 0 d.size w) hH hblk hsz PS
theorem JL (p:Option Addr) (c:Nat) (w:World):Calls Tryz.prog 136 #[.slice p 0 c,.func (.func 137) #[] #[]] w fun e w'=>e=.returned (.tuple #[])∧w'=w:=
 AnyF.slices_SortFunc_none (P:=Tryz.prog) (ρ:=qj) { JK with } p c (.func (.func 137) #[] #[]) w
theorem yi (w:World) (blk n:Nat) (d:Array ScQ) (os:Array Obj) {b:Nat} (hb:b≠blk) (hs:b<w.heap.size):(sortWorldK cR 2 w blk 0 n d os).heap[b]?=w.heap[b]?:=by
 have h1:(putRowK cR 2 (Sort.ahead w n) blk 0 d).heap[b]?=w.heap[b]?:=by
  simp only[putRowK,putRow,mapBlock,Array.getElem?_modify,if_neg (Ne.symm hb)]
  rfl
 have h2:b<(putRowK cR 2 (Sort.ahead w n) blk 0 d).heap.size:=by
  simp only[putRowK,size_putRow]; exact hs
 simp only[sortWorldK,grow]
 rw[Array.getElem?_append_left h2]
 exact h1
theorem yj (w:World) (blk n:Nat) (d:Array ScQ) (os:Array Obj):(sortWorldK cR 2 w blk 0 n d os).os=w.os∧(sortWorldK cR 2 w blk 0 n d os).tape=w.tape∧(sortWorldK cR 2 w blk 0 n d os).output=w.output∧w.heap.size≤(sortWorldK cR 2 w blk 0 n d os).heap.size:=by
 refine⟨rfl,rfl,rfl,?_⟩
 simp only[sortWorldK,grow,Array.size_append,putRowK,size_putRow]
 exact Nat.le_add_right _ _
theorem Bf (w:World) (blk n:Nat) (d0 d:Array ScQ) (os:Array Obj) (hblk:blk<w.heap.size) (h0:HoldsK cR 2 w blk 0 d0) (h:d.size=d0.size) {i j:Nat} (hi:i<d.size) (hj:j<2):(sortWorldK cR 2 w blk 0 n d os).cell? ⟨blk,i*2+j,none⟩=some ((cR d[i]!)[j]!):=by
 have:=(holdsK_sortWorldK cR 2 w blk 0 n d0 d os hblk h0 h (i*2+j) (by rw[size_flatK]; omega)).1
 rw[Nat.zero_add,get_flatK _ _ _ _ (by omega)] at this
 have e1:(i*2+j) / 2=i:=by omega
 have e2:(i*2+j) % 2=j:=by omega
 rw[e1,e2] at this
 exact this
def toQ (q:ScI):ScQ:=if h:-1≤q.1∧q.1≤1∧0≤q.2.1∧q.2.1≤1000 then ⟨(q.1,q.2.1),h⟩ else default
def ofQ (q:ScQ):ScI:=(q.1.1,q.1.2,())
theorem S7 {q:ScI} (h:-1≤q.1∧q.1≤1∧0≤q.2.1∧q.2.1≤16):ofQ (toQ q)=q:=by
 have h':-1≤q.1∧q.1≤1∧0≤q.2.1∧q.2.1≤1000:=by omega
 unfold toQ ofQ
 rw[dif_pos h']
def srt (xs:List ScI):List ScQ:=(xs.map toQ).toArray.toList.mergeSort fun x y=>!(ltOf hJ) y x
theorem pf (xs:List ScI):(srt xs).length=xs.length:=by
 unfold srt
 rw[List.length_mergeSort,List.length_map]
theorem Q3 {xs l:List ScI} (hp:xs.Perm l) (hs:l.Pairwise fun p q=>vn p q=true) (hin:∀q∈l,-1≤q.1∧q.1≤1∧0≤q.2.1∧q.2.1≤16):(srt xs).map ofQ=l:=by
 have p1:((srt xs).map ofQ).Perm l:=by
  unfold srt
  refine ((List.mergeSort_perm _ _).map ofQ).trans ?_
  rw[List.map_map]
  have:xs.map (ofQ ∘ toQ)=xs:=by
   refine (List.map_congr_left fun q hq=>?_).trans (List.map_id xs)
   exact S7 (hin q (hp.mem_iff.1 hq))
  rw[this]
  exact hp
 have nd:((srt xs).map ofQ).Nodup:=p1.nodup_iff.2 (hs.imp fun {p q} h e=>by subst e; rw[gq] at h; omega)
 refine FZ (List.pairwise_map.2 ?_) hs p1
 have w1:(srt xs).Pairwise fun x y=>(!(ltOf hJ) y x)=true:=List.pairwise_mergeSort
  (fun a b c h1 h2=>by rw[Bool.not_eq_true',DR] at *; omega) (fun a b=>by
   cases h1:(ltOf hJ) b a
   ·rfl
   ·cases h2:(ltOf hJ) a b
    ·rfl
    ·rw[Nw] at h1 h2; omega) _
 have w2:(srt xs).Pairwise fun x y=>ofQ x≠ofQ y:=List.pairwise_map.1 nd
 refine (w1.and w2).imp fun {x y} h=>?_
 have h1:=h.1
 rw[Bool.not_eq_true'] at h1
 cases hxy:(ltOf hJ) x y
 ·exact absurd (congrArg ofQ (PS x y hxy h1)) h.2
 ·rw[Nw] at hxy
  exact (gq _ _).2 hxy
theorem row_holds {h:List ABlk} {g:Gh} {w:World} {v:Value} {xs:List ScI} (o:cJ h g w v 156 bB xs) (hin:∀q∈xs,-1≤q.1∧q.1≤1∧0≤q.2.1∧q.2.1≤16) :
  (xs=[]∧∃p c,v=.slice p 0 c∧c≤maxLen∧(p=none→c=0)) ∨
  (∃b c,v=.slice (some ⟨b,0,none⟩) xs.length c∧0<xs.length∧xs.length≤c∧c≤maxLen∧b<w.heap.size∧HoldsK cR 2 w b 0 (xs.map toQ).toArray):=by
 obtain⟨vs,⟨hl,ho⟩,hr⟩:=(aU (e:=bB) (by decide)).1 o
 rcases ho with ⟨rfl,hn⟩|⟨b,c,cur,rfl,_,hb,h1,h2,h3,h4⟩
 ·exact .inl ⟨List.length_eq_zero_iff.1 hn,none,0,rfl,Nat.zero_le _,fun _=>rfl⟩
 ·by_cases h0:xs.length=0
  ·exact .inl ⟨List.length_eq_zero_iff.1 h0,some ⟨b,0,none⟩,c,congrArg (fun n=>Value.slice (some ⟨b,0,none⟩) n c) h0,h2,fun h=>by cases h⟩
  ·refine .inr ⟨b,c,rfl,by omega,h1,h2,(Array.getElem?_eq_some_iff.1 hb).1,fun t ht=>?_⟩
   rw[size_flatK,List.size_toArray,List.length_map] at ht
   have hq:t / 2<xs.length:=by omega
   rw[get_flatK _ _ _ _ (by rw[List.size_toArray,List.length_map]; exact ht)]
   have hx:xs[t / 2]?=some xs[t / 2]:=List.getElem?_eq_getElem hq
   have hd:(xs.map toQ).toArray[t / 2]! = toQ xs[t / 2]:=by
    rw[getElem!_pos _ _ (by rw[List.size_toArray,List.length_map]; exact hq)]
    simp
   rw[hd]
   have hv:=hin _ (List.getElem_mem hq)
   generalize xs[t / 2]=q at hx hv
   have hsz:bB.size=2:=rfl
   have h4':List.take ((xs:List ScI).length*2) cur.toList=vs:=h4
   have hcur:∀j u,j<2→vs[t / 2*bB.size+j]?=some u→t / 2*2+j<(xs:List ScI).length*2→cur[t / 2*2+j]?=some u:=fun j u hj hu hlt=>by
    rw[hsz,←h4'] at hu
    rw[List.getElem?_take,if_pos hlt,Array.getElem?_toList] at hu
    exact hu
   have e2:(toQ q).1=(q.1,q.2.1):=by
    unfold toQ
    rw[dif_pos (by omega)]
   have cell:∀u,cur[t]?=some u→w.cell? ⟨b,0+t,none⟩=some u∧w.frozen? ⟨b,0+t,none⟩=false:=fun u hu=>by
    rw[Nat.zero_add]
    exact⟨by simp[World.cell?,hb,hu],by simp[World.frozen?,hb]⟩
   have cs:bB.cells q=[.int .i64 q.1,.int .i64 q.2.1]:=rfl
   rcases Nat.mod_two_eq_zero_or_one t with e|e
   ·rw[e]
    obtain⟨u,q1,q2⟩:=hr (t / 2) q 0 (.int .i64 q.1) hx (by rw[cs]; rfl)
    have:=cell u (by have:=hcur 0 u (by omega) q1 (by omega); rwa [show t / 2*2+0=t by omega] at this)
    cases q2
    refine⟨this.1.trans ?_,this.2⟩
    show _=some ((cR (toQ q))[0]!)
    unfold cR; rw[e2]; rfl
   ·rw[e]
    obtain⟨u,q1,q2⟩:=hr (t / 2) q 1 (.int .i64 q.2.1) hx (by rw[cs]; rfl)
    have:=cell u (by have:=hcur 1 u (by omega) q1 (by omega); rwa [show t / 2*2+1=t by omega] at this)
    cases q2
    refine⟨this.1.trans ?_,this.2⟩
    show _=some ((cR (toQ q))[1]!)
    unfold cR; rw[e2]; rfl
theorem Bg {g:Gh} {w:World} {h:List ABlk} {b c m:Nat} {xs l:List ScI} {os:Array Obj} (hH:HoldsK cR 2 w b 0 (xs.map toQ).toArray) (hb:b<w.heap.size) (h0:0<xs.length) (hc:xs.length≤c) (hc2:c≤maxLen) (he:(srt xs).map ofQ=l) (hM:g.M b) :
  Rep h g (sortWorldK cR 2 w b 0 m (srt xs).toArray os) (.ro bB l) (.slice (some ⟨b,0,none⟩) xs.length c):=by
 have hl:l.length=xs.length:=by rw[←he,List.length_map,pf]
 rw[←hl]
 have hc':l.length≤c:=by omega
 have hp:0<l.length:=by omega
 refine .ro1 bB l b 0 c (fun i j=>(cR (srt xs).toArray[i]!)[j]!) hp hc' hc2 hM (fun n x j cc hx hcc=>?_) fun n x j cc hx hcc=>?_
 ·have hn:n<(l:List ScI).length:=(List.getElem?_eq_some_iff.1 hx).1
  have hj:j<2:=(List.getElem?_eq_some_iff.1 hcc).1
  have:=Bf w b m (xs.map toQ).toArray (srt xs).toArray os hb hH (by rw[List.size_toArray,List.size_toArray,pf,List.length_map]) (i:=n) (j:=j) (by rw[List.size_toArray,pf]; omega) hj
  have e:0+n*bB.size+j=n*2+j:=by rw[Nat.zero_add]; rfl
  rw[e]
  exact this
 ·have hn0:n<(l:List ScI).length:=(List.getElem?_eq_some_iff.1 hx).1
  have hn:n<(srt xs).length:=by rw[pf]; omega
  have hx2:ofQ (srt xs)[n]=x:=by
   have hx':(l:List ScI)[n]?=some x:=hx
   rw[←he,List.getElem?_map,List.getElem?_eq_getElem hn] at hx'
   exact Option.some.inj hx'
  have hd:(srt xs).toArray[n]! = (srt xs)[n]:=by
   rw[getElem!_pos _ _ (by rw[List.size_toArray]; exact hn)]
   simp
  show Rep h g _ cc ((cR (srt xs).toArray[n]!)[j]!)
  rw[hd]
  generalize (srt xs)[n]=q at hx2
  subst hx2
  have cs:bB.cells (ofQ q)=[.int .i64 q.1.1,.int .i64 q.1.2]:=rfl
  rw[cs] at hcc
  match j with
  |0=>simp at hcc; subst hcc; exact .int _ _
  |1=>simp at hcc; subst hcc; exact .int _ _
  |j+2=>simp at hcc
theorem yk:∀ {l:List MapEntry},(l.map (·.born)).Nodup→∀x∈l,∀y∈l,x.born=y.born→x=y
 | [],_,x,hx,_,_,_=>absurd hx List.not_mem_nil
 |e::l,h,x,hx,y,hy,he=>by
  rw[List.map_cons,List.nodup_cons] at h
  rcases List.mem_cons.1 hx with rfl|hx'
  ·rcases List.mem_cons.1 hy with rfl|hy'
   ·rfl
   ·exact absurd (List.mem_map.2 ⟨y,hy',he.symm⟩) h.1
  ·rcases List.mem_cons.1 hy with rfl|hy'
   ·exact absurd (List.mem_map.2 ⟨x,hx',he⟩) h.1
   ·exact yk h.2 x hx' y hy' he
theorem qk {l:List MapEntry} (h:(l.map (·.born)).Nodup):l.Nodup:=(List.pairwise_map.1 h).imp fun {_ _} hne e=>hne (congrArg _ e)
theorem F2 {es:Array MapEntry} {ts:List MapEntry} (hnd:(es.toList.map (·.born)).Nodup) (hts:∀e∈ts,e∈es.toList) (htn:(ts.map (·.born)).Nodup) (hz:(leftOf es (ts.map (·.born)).toArray).size=0):ts.Perm es.toList:=by
 have inj:=yk hnd
 refine (List.perm_ext_iff_of_nodup (qk htn) (qk hnd)).2 fun e=>⟨hts e,fun he=>?_⟩
 have hs:(ts.map (·.born)).toArray.contains e.born=true:=by
  cases hc:(ts.map (·.born)).toArray.contains e.born
  ·have:e∈leftOf es (ts.map (·.born)).toArray:=by
    unfold leftOf
    rw[Array.mem_filter]
    exact⟨by rw[←Array.mem_toList_iff]; exact he,by rw[hc]; rfl⟩
   rw[Array.eq_empty_of_size_eq_zero hz] at this
   exact absurd this (by simp)
  ·rfl
 have hm:e.born∈ts.map (·.born):=by simpa using hs
 obtain⟨q,hq,hqe⟩:=List.mem_map.1 hm
 exact inj q (hts q hq) e he hqe▸hq
theorem ph {h:List ABlk} {g:Gh} {w:World} {i:Nat} {v:Value} (r:Rep h g w (.own i) v) {wr:Bool} {t:TypeId} {e:Sh} {xs:List e.ty} (hi:h[i]?=some (.row wr t e xs)):v=g.ρ i∧v.oneCell'=true:=by
 cases r with|own _ _ _ hc hv=>exact⟨hv _ _ _ _ hi,hc⟩
theorem lX {h:List ABlk} {g:Gh} {w:World} {tmps:Array Value} (hs:tmps.size=35) {d:Nat} (hd:d<35) {v:AVal} (r:Rep h g w v (tmps.getD d Go.undef)):aV h g w (aN [(d,v)]) tmps:=by
 have e:aN [(d,v)]=(List.replicate 35 AVal.any).set d v:=rfl
 rw[e]
 refine⟨by rw[List.length_set,List.length_replicate,hs],fun j c x hc hx=>?_⟩
 rw[List.getElem?_set] at hc
 by_cases h9:d=j
 ·subst h9
  rw[if_pos rfl,if_pos (by rw[List.length_replicate]; exact hd)] at hc
  cases hc
  have:tmps.getD d Go.undef=x:=by rw[Array.getD_eq_getD_getElem?,hx]; rfl
  rw[←this]; exact r
 ·rw[if_neg h9,List.getElem?_replicate] at hc
  split at hc
  ·cases hc; exact .any x
  ·cases hc
theorem JM {h:List ABlk} {g:Gh} {w:World} {tmps:Array Value} (hs:tmps.size=35) {d f:Nat} (hd:d<35) (hf:f<35) (hn:d≠f) {v u:AVal} (r:Rep h g w v (tmps.getD d Go.undef)) (q:Rep h g w u (tmps.getD f Go.undef)):aV h g w (aN [(d,v),(f,u)]) tmps:=by
 have e:aN [(d,v),(f,u)]=((List.replicate 35 AVal.any).set d v).set f u:=rfl
 rw[e]
 have t1:=lX hs hd r
 have e1:aN [(d,v)]=(List.replicate 35 AVal.any).set d v:=rfl
 rw[e1] at t1
 refine⟨by rw[List.length_set]; exact t1.1,fun j c x hc hx=>?_⟩
 rw[List.getElem?_set] at hc
 by_cases h9:f=j
 ·subst h9
  rw[if_pos rfl,if_pos (by rw[t1.1,hs]; exact hf)] at hc
  cases hc
  have:tmps.getD f Go.undef=x:=by rw[Array.getD_eq_getD_getElem?,hx]; rfl
  rw[←this]; exact q
 ·rw[if_neg h9] at hc
  exact t1.2 j c x hc hx
theorem oO (w:World) (o:Obj):∀n,n<w.heap.size→n≠w.heap.size→(w.alloc o).heap[n]?=w.heap[n]?:=fun n hn _=>heap_alloc_old w o hn
theorem Bh:∀args w,(callFunc 136 args).run Tryz.prog w=.ok (.enter 136 args) w:=enters_of Tryz.func136 (by kernel_rfl) rfl
theorem JN (A:Act) (v:Value) (hv:A.eval (.tmp 32)=v) (w:World):(execOp A.eval (cW sO9 1)).run Tryz.prog w=.ok (.enter 136 #[v,.func (.func 137) #[] #[]]) w:=by
 have hf:∀f,A.eval (.func f)=.func (.func f) #[] #[]:=fun _=>rfl
 simp[execOp,JE.2.2.2,resolve,hf,hv,Deferred.ofValue,invoke,Bh]
theorem F3 {K0:Nat→Prop} {g0:Gh} {w0:World} {r0 bm:Nat} {es:Array MapEntry} {clock:Nat} {ts:List MapEntry} {l:List ScI} {a:Act} {w:World} {Q:Exit→Act→World→Prop} (hI:LpI K0 g0 w0 r0 bm es clock ts a w)
  (hp:(ts.map aM).Perm l) (hs:l.Pairwise fun p q=>vn p q=true) (hin:∀q∈l,-1≤q.1∧q.1≤1∧0≤q.2.1∧q.2.1≤16) (hlen:l.length≤1000)
  (fin:∀a' w' K' g',Mid K0 g0 w0 [.dead] (aN [(9,.ro bB l),(34,.ro bB l),(4,.ro bB l),(5,.int .i64 0)]) a' w' K' g'→Q .ret a' w'):WpR Tryz.prog (Code.seq (.region 9 sO9 false) yf) Q a w:=by
 obtain⟨K,g,m,_,_,_,_,_,_,_,_,_,_⟩:=hI
 have hsz:a.tmps.size=35:=m.tr.1.symm
 have ow:([s38 (ts.map aM)]:List ABlk)[0]?=some (s38 (ts.map aM)):=rfl
 have r9:Rep [s38 (ts.map aM)] g w (.own 0) (a.tmps.getD 9 Go.undef):=m.tr.get 9
 obtain⟨v9,c9⟩:=ph r9 ow
 have hin':∀q∈ts.map aM,-1≤q.1∧q.1≤1∧0≤q.2.1∧q.2.1≤16:=fun q hq=>hin q (hp.mem_iff.1 hq)
 have hrow:=row_holds (m.st.blk 0 _ ow) hin'
 rw[←v9] at hrow
 have hll:(ts.map aM).length=l.length:=hp.length_eq
 refine di (cL ?_)
 rw[jD.2.2.2]
 show wpOpsIn (FW none) 0 Tryz.prog sO9 _ [0,1] a w
 refine aZ DN.1 DN.2.1 ?_
 refine bX (x:=a.tmps.getD 9 Go.undef) (w':=w) (by simp[execOp,DN.2.2.2,Act.eval,Result.andThen]) ?_
 rw[DN.2.2.1]
 refine aZ JE.1 JE.2.1 ?_
 have hv32:(a.put (some 32) (a.tmps.getD 9 Go.undef)).eval (.tmp 32)=a.tmps.getD 9 Go.undef:=aQ a 32 _ (by omega)
 have hrun:=JN _ _ hv32 w
 have rest:∀w' (x:Value),((∃g',Mid K0 g0 w0 [.dead] (aN [(9,.ro bB l)]) ((a.put (some 32) (a.tmps.getD 9 Go.undef)).put (some 33) x) w' K g'))→WpR Tryz.prog yf Q ((a.put (some 32) (a.tmps.getD 9 Go.undef)).put (some 33) x) w':=fun w' x ⟨g',m'⟩=>
  M4 bG bP (bT bG bP (eV eY a8) 0 0) (QX 0 0 l) m' fin
 refine⟨fun _ _=>trivial,?_⟩
 rw[gZ hrun (fun d w' e=>by cases e) (fun d c w' _ e=>by cases e),Oper.uponIn_enter]
 have keep9:∀x,((a.put (some 32) (a.tmps.getD 9 Go.undef)).put (some 33) x).tmps.getD 9 Go.undef=a.tmps.getD 9 Go.undef:=fun x=>by rw[bS _ _ _ (by decide),bS _ _ _ (by decide)]
 have size9:∀x,((a.put (some 32) (a.tmps.getD 9 Go.undef)).put (some 33) x).tmps.size=35:=fun x=>by rw[cQ,cQ]; exact hsz
 have mput:∀x,Mid K0 g0 w0 [s38 (ts.map aM)] (aN [(9,.own 0)]) ((a.put (some 32) (a.tmps.getD 9 Go.undef)).put (some 33) x) w K g:=fun x=>(m.put (some 32) (.any _)).put (some 33) (.any _)
 generalize a.tmps.getD 9 Go.undef=v at *
 rcases hrow with ⟨h0,p,c,rfl,hc1,hc2⟩|⟨b,c,rfl,h0,hc1,hc2,hb,hH⟩
 ·-- no score at all
  refine⟨fun h=>by simp[FW] at h,(iO (JL p c w)).mono fun e w' he=>?_⟩
  obtain⟨rfl,rfl⟩:=he
  have hl0:l=[]:=by
   have:=hp; rw[h0] at this; exact this.nil_eq.symm
  subst hl0
  refine rest w' _ ⟨g,?_⟩
  have mm:=mput (.tuple #[])
  have ad:∀i,alive [.dead] i→False:=fun i ⟨q,hq,hn⟩=>by
   cases i with
   |zero=>simp at hq; exact hn hq.symm
   |succ i=>simp at hq
  have l:=mm.le
  exact⟨mm.kk,⟨fun j q hq=>by
   cases j with
   |zero=>simp at hq; subst hq; trivial
   |succ j=>simp at hq,fun j _ _ hj=>(ad j hj).elim,fun j _ hj=>(ad j hj).elim,mm.st.low,mm.st.klow⟩,⟨Nat.zero_le _,fun j hj=>absurd hj.lt (Nat.not_lt_zero j),l.m,l.new,l.mw,l.k,fun j _ _ hj=>absurd hj.lt (Nat.not_lt_zero j),fun j _ _ _ _ hj=>absurd hj.lt (Nat.not_lt_zero j),fun j _ _ _ _ _ _ hj=>absurd hj.lt (Nat.not_lt_zero j),fun j _ hj=>by simp at hj,fun j _ _ _ hj=>by simp at hj,l.os,l.tape,l.output,l.size⟩,
   lX (size9 _) (by decide) (by rw[keep9]; exact .ro0 bB p c hc1 hc2),mm.df⟩
 ·-- the row is sorted
  have hcall:=Ny b c ((ts.map aM).map toQ).toArray w hH hb (by rw[List.size_toArray,List.length_map,hll]; omega)
  rw[List.size_toArray,List.length_map] at hcall
  refine⟨fun h=>by simp[FW] at h,(iO hcall).mono fun e w' he=>?_⟩
  obtain⟨rfl,n,os,hw⟩:=he
  have hsrt:srt (ts.map aM)=((ts.map aM).map toQ).toArray.toList.mergeSort fun x y=>!(ltOf hJ) y x:=rfl
  rw[←hsrt] at hw
  refine rest w' _ ?_
  have mm:=mput (.tuple #[])
  have hbk:an (g.ρ 0)=some b:=by rw[←v9]; rfl
  have al0:alive [s38 (ts.map aM)] 0:=⟨_,ow,by simp⟩
  obtain⟨s1,s2,s3⟩:=mm.st.sep 0 b al0 hbk
  have hbel:=yj w b n (srt (ts.map aM)).toArray os
  rw[←hw] at hbel
  have hblk:∀k,k<w.heap.size→k≠b→w'.heap[k]?=w.heap[k]?:=fun k hk hne=>by rw[hw]; exact yi w b n _ os hne hk
  -- the row becomes memory that stays,then it turns
  have l0:=mm.le
  have ad:∀i,alive [.dead] i→False:=fun i ⟨q,hq,hn⟩=>by
   cases i with
   |zero=>simp at hq; exact hn hq.symm
   |succ i=>simp at hq
  have hk0:∀k,K k→k≠b:=fun k hk e=>s1 (e▸hk)
  have hm0:∀k,g.M k→k≠b:=fun k hk e=>s2 (e▸hk)
  refine⟨⟨g.ρ,fun k=>g.M k∨k=b⟩,mm.kk,⟨fun j q hq=>by
   cases j with
   |zero=>simp at hq; subst hq; trivial
   |succ j=>simp at hq,fun j _ _ hj=>(ad j hj).elim,fun j _ hj=>(ad j hj).elim,fun k hk=>Nat.lt_of_lt_of_le (hk.elim (mm.st.low k) fun e=>e▸s3) hbel.2.2.2,fun k hk=>Nat.lt_of_lt_of_le (mm.st.klow k hk) hbel.2.2.2⟩,⟨Nat.zero_le _,fun j hj=>absurd hj.lt (Nat.not_lt_zero j),fun k hk=>.inl (l0.m k hk),fun k hk=>hk.elim (l0.new k) fun e=>.inr fun hk=>s1 (e▸mm.kk k hk),fun k hk=>(hblk k (mm.st.low k (l0.m k hk)) (hm0 k (l0.m k hk))).trans (l0.mw k hk),fun k hk=>(hblk k (mm.st.klow k (mm.kk k hk)) (hk0 k (mm.kk k hk))).trans (l0.k k hk),fun j _ _ hj=>absurd hj.lt (Nat.not_lt_zero j),fun j _ _ _ _ hj=>absurd hj.lt (Nat.not_lt_zero j),fun j _ _ _ _ _ _ hj=>absurd hj.lt (Nat.not_lt_zero j),fun j _ hj=>by simp at hj,fun j _ _ _ hj=>by simp at hj,hbel.1.trans l0.os,hbel.2.1.trans l0.tape,hbel.2.2.1.trans l0.output,Nat.le_trans l0.size hbel.2.2.2⟩,
   lX (size9 _) (by decide) ?_,?_⟩
  ·rw[keep9,hw]
   exact Bg hH hb h0 hc1 hc2 (Q3 hp hs hin) (.inr rfl)
  ·obtain⟨rs,n1,n2,n3⟩:=mm.df
   refine⟨rs,n1,n2,fun r hr=>?_⟩
   obtain⟨q1,q2,q3,q4⟩:=n3 r hr
   exact⟨q1,q2,fun h=>h.elim q3 (hk0 r q1),(hblk r (mm.st.klow r q1) (hk0 r q1)).trans q4⟩
end Go.Proofs.YtpgfncncgjihpaaGreat
namespace Go.Proofs.YtpgfncncgjihpaaGreat
open Go.RowKit
theorem jE (w:World) (o:Obj):(w.alloc o).heap.size=w.heap.size+1:=Array.size_push _
theorem JO {h:List ABlk} {g:Gh} {w:World} {v:Value} {t:TypeId} {m:ScM} (o:cJ h g w v t (.mp bB .bool) m):∃(bm:Nat) (es:Array MapEntry) (clock:Nat),v=.map (some bm)∧w.heap[bm]?=some (.map es clock)∧es.toList.map aM=cw m ∧
  (∀x∈es.toList,x.born<clock)∧(es.toList.map (·.born)).Nodup∧∀e∈es.toList,e.key=.agg #[.int .i64 (aM e).1,.int .i64 (aM e).2.1]:=by
 obtain⟨bm,es,clock,e1,hb,hsz,⟨hold,hnd⟩,hkv⟩:=o
 have hsz':es.size=(m:ScM).length:=hsz
 have at_:∀n (q:ScI × Bool) en,(m:ScM)[n]?=some q→es[n]?=some en→aM en=q.1∧en.key=.agg #[.int .i64 q.1.1,.int .i64 q.1.2.1]:=fun n q en hq hen=>F0 (hkv n q en hq hen).1
 refine⟨bm,es,clock,e1,hb,List.ext_getElem? fun n=>?_,hold,hnd,fun e he=>?_⟩
 ·unfold cw
  rw[List.getElem?_map,List.getElem?_map,Array.getElem?_toList]
  by_cases hn:n<es.size
  ·have h1:es[n]?=some es[n]:=Array.getElem?_eq_getElem hn
   have h2:(m:ScM)[n]?=some ((m:ScM)[n]'(by omega)):=List.getElem?_eq_getElem (by omega)
   rw[h1,h2,Option.map_some,Option.map_some,(at_ n _ _ h2 h1).1]
  ·rw[Array.getElem?_eq_none (by omega),List.getElem?_eq_none (by omega)]; rfl
 ·obtain⟨n,hn,rfl⟩:=List.mem_iff_getElem.1 he
  rw[Array.length_toList] at hn
  rw[Array.getElem_toList]
  have h1:es[n]?=some es[n]:=Array.getElem?_eq_getElem hn
  have h2:(m:ScM)[n]?=some ((m:ScM)[n]'(by omega)):=List.getElem?_eq_getElem (by omega)
  have h3:=at_ n _ _ h2 h1
  rw[h3.2,h3.1]
theorem F4 (A:Act) (bm:Nat) (es:Array MapEntry) (clock:Nat) (w:World) (hv:A.eval (.tmp 22)=.map (some bm)) (hb:w.heap[bm]?=some (.map es clock)):(execOp A.eval (cW sO5 2)).run Tryz.prog w=.ok (.value (.pointer (some ⟨w.heap.size,0,none⟩))) (w.alloc (.mapIter (some bm) clock #[] clock)):=by
 have hrun:=run_range_map (P:=Tryz.prog) w 212 _ _ bm es clock Tryz.underlying212 hb
 simp[execOp,DL.2.2.2,hv,hrun,Result.andThen]
theorem Nz {K0:Nat→Prop} {g0:Gh} {w0:World} {x y:List RdI} (hx:dt x) (hy:dt y) {a:Act} {w:World} {K:Nat→Prop} {g:Gh} {Q:Exit→Act→World→Prop} (m:Mid K0 g0 w0 (yh (scM x y)) (aN [(9,.own 0),(21,.agg [.ro bp x,.ro bp y]),(22,.own 2)]) a w K g)
  (fin:∀a' w' K' g',Mid K0 Dz w0 [.dead] (aN [(9,.ro bB (scL x y)),(34,.ro bB (scL x y)),(4,.ro bB (scL x y)),(5,.int .i64 0)]) a' w' K' g'→Q .ret a' w') :
  (cW sO5 2).wpIn (FW none) 0 Tryz.prog a w (wpOpsIn (FW none) 0 Tryz.prog sO5 (Exit.then (WpR Tryz.prog (Code.block 0 (.loop sLp)) (Exit.then (WpR Tryz.prog (Code.seq (.region 9 sO9 false) yf) Q) Q)) (Exit.then (WpR Tryz.prog (Code.seq (.region 9 sO9 false) yf) Q) Q)) []) (Exit.then (WpR Tryz.prog (Code.block 0 (.loop sLp)) (Exit.then (WpR Tryz.prog (Code.seq (.region 9 sO9 false) yf) Q) Q)) (Exit.then (WpR Tryz.prog (Code.seq (.region 9 sO9 false) yf) Q) Q)):=by
 have hsz:a.tmps.size=35:=m.tr.1.symm
 have o2:(yh (scM x y))[2]?=some (.row true 212 (.mp bB .bool) (scM x y)):=rfl
 have o0:(yh (scM x y))[0]?=some (s38 []):=rfl
 have r22:Rep (yh (scM x y)) g w (.own 2) (a.tmps.getD 22 Go.undef):=m.tr.get 22
 have r9:Rep (yh (scM x y)) g w (.own 0) (a.tmps.getD 9 Go.undef):=m.tr.get 9
 obtain⟨v22,_⟩:=ph r22 o2
 obtain⟨v9,c9⟩:=ph r9 o0
 obtain⟨bm,es,clock,e1,hb,hks,hold,hnd,hkey⟩:=JO (t:=212) (m.st.blk 2 _ o2)
 have hbl:an (g.ρ 2)=some bm:=by rw[e1]; rfl
 obtain⟨b1,b2,b3⟩:=m.st.sep 2 bm ⟨_,o2,by simp⟩ hbl
 have hv:a.eval (.tmp 22)=.map (some bm):=v22.trans e1
 refine bX (F4 a bm es clock w hv hb) ?_
 rw[DL.2.2.1]
 have m1:Mid K0 g0 w0 (yh (scM x y)) (aN [(9,.own 0),(21,.agg [.ro bp x,.ro bp y]),(22,.own 2)]) a (w.alloc (.mapIter (some bm) clock #[] clock)) K g:=
  m.turn (r:=w.heap.size) rfl rfl rfl (by rw[jE]; exact Nat.le_succ _) (oO w _) (fun h=>Nat.lt_irrefl _ (m.st.klow _ h)) (fun h=>Nat.lt_irrefl _ (m.st.low _ h)) fun i hi h=>Nat.lt_irrefl _ (m.st.sep i _ hi h).2.2
 have m2:=m1.put (some 23) (.any (.pointer (some ⟨w.heap.size,0,none⟩)))
 have n0:an (g.ρ 0)≠some bm:=fun h=>absurd (m.st.inj 0 2 bm ⟨_,o0,by simp⟩ ⟨_,o2,by simp⟩ h hbl) (by decide)
 have k9:(a.put (some 23) (.pointer (some ⟨w.heap.size,0,none⟩))).tmps.getD 9 Go.undef=a.tmps.getD 9 Go.undef:=bS _ _ _ (by decide)
 have m3:=m2.oneN (i:=0) (e:=bB) (by decide) vq o0 (tm':=aN [(9,.own 0)]) (lX (by rw[cQ]; exact hsz) (by decide) (by
  rw[k9]; exact .own 0 _ (cm.of (b:=s38 []) rfl (by simp)) c9 fun _ _ _ _ _=>v9))
 have m4:=m3.lock (r:=bm) (by rw[jE]; omega) (JH (g:=⟨fun _=>g.ρ 0,fun _=>False⟩) n0)
 show WpR Tryz.prog (Code.block 0 (.loop sLp)) _ (a.put (some 23) (.pointer (some ⟨w.heap.size,0,none⟩))) (w.alloc (.mapIter (some bm) clock #[] clock))
 have hal:(w.alloc (.mapIter (some bm) clock #[] clock)).heap[w.heap.size]?=some (.mapIter (some bm) clock #[] clock):=heap_alloc_new w _
 have hes:es.size≤1000:=by
  have h1:=(yd x y hx.1 hy.1).length_eq
  have h2:=vo x y
  rw[←hks,List.length_map,Array.length_toList] at h1
  omega
 refine tE (I9 (I:=fun a w'=>∃ts,LpI K0 Dz w0 w.heap.size bm es clock ts a w') (μ:=fun _ w'=>F1 w.heap.size es w') ⟨[],_,_,m4,?_,?_,?_,?_,.inr rfl,?_,?_,?_,fun _ h=>absurd h List.not_mem_nil,List.nodup_nil⟩ fun a' w' ⟨ts,hI⟩=>JJ hold hnd hes hkey (fun ts a w' hI hz=>?_) hI)
 ·exact aQ a 23 _ (by omega)
 ·exact fun h=>h.elim (fun h=>Nat.lt_irrefl _ (m.st.klow _ h)) fun h=>Nat.lt_irrefl _ (h▸b3)
 ·exact fun h=>h
 ·exact fun h=>Nat.lt_irrefl _ (m.st.sep 0 _ ⟨_,o0,by simp⟩ h).2.2
 ·rw[jE]; exact Nat.lt_succ_self _
 ·exact hal
 ·exact (heap_alloc_old w _ b3).trans hb
 ·have hts:(∀e∈ts,e∈es.toList)∧(ts.map (·.born)).Nodup:=by
   obtain⟨_,_,_,_,_,_,_,_,_,_,_,q1,q2⟩:=hI
   exact⟨q1,q2⟩
  have hp:(ts.map aM).Perm (scL x y):=by
   refine ((F2 hnd hts.1 hts.2 hz).map aM).trans ?_
   rw[hks]
   exact yd x y hx.1 hy.1
  exact F3 hI hp (qg x y) (fun q hq=>Jw hq) (by have:=vo x y; omega) fin
def scR (l:List SnI) (r:List RdI):List ScI:=bif bZ l r==0 then scL (tmL l (aW l.length r) 0) (tmL l (aW l.length r) 1) else []
noncomputable def F5:Fsp:=fun _ args k=>match args with
 | [.ro (.recd (.cons (.int .i64) (.cons (.int .i64) (.cons (.recd (.cons (.int .i64) (.cons (.int .i64) .nil))) .nil)))) l,.ro (.recd (.cons (.int .i64) (.cons (.int .i64) (.cons (.int .i64) .nil)))) r]=>k (.ret (.tup [.ro bB (scR l r),.int .i64 (bZ l r)]))
 |_=>none
noncomputable def NA (e:Int):Fsp:=fun _ args k=>match args with
 | [.ro (.recd (.cons (.int .i64) (.cons (.int .i64) (.cons (.recd (.cons (.int .i64) (.cons (.int .i64) .nil))) .nil)))) l,.ro (.recd (.cons (.int .i64) (.cons (.int .i64) (.cons (.int .i64) .nil)))) r]=>bif bZ l r==e&&!(bZ l r==0) then k (.ret (.tup [.nils,.agg [.ro bp [],.ro bp []],.int .i64 e])) else none
 |_=>none
theorem NB (e:Int):FspOk Tryz.prog 134 (NA e) where
 enter:=gK.enter
 nat:=by intro α args k; unfold NA; split<;>simp only[ak,Option.bind_some,Option.bind_none]
 calls:=fun args out hout=>gK.calls args out (by
  unfold NA at hout
  unfold FX
  split at hout
  ·rename_i l r
   cases h:bZ l r==e&&!(bZ l r==0)
   ·rw[h] at hout; cases hout
   ·rw[h] at hout
    rw[Bool.and_eq_true,Bool.not_eq_true',beq_iff_eq] at h
    simp only[h.2,cond_false,cond_true] at hout ⊢
    rw[h.1]; exact hout
  ·cases hout)
noncomputable def DS (e:Int):FuncId→Option Fsp:=fun g=>if g=134 then some (NA e) else nj g
theorem ql (e:Int):aD (DS e):=ae (NB e) eY
set_option maxRecDepth 100000 in
theorem F6 (N n0:Nat) (α:Type) (l:List SnI) (r:List RdI) (k:AOut→Option α):am real tab ((twY (DS 2) de).env real tab N (n0+15)) N Tryz.f82 α [.ro lV l,.ro bp r] k =
 bif bZ l r==2&&!(bZ l r==0) then k (.ret (.tup [.ro bB [],.int .i64 2])) else none:=by kernel_rfl
set_option maxRecDepth 100000 in
theorem F7 (N n0:Nat) (α:Type) (l:List SnI) (r:List RdI) (k:AOut→Option α):am real tab ((twY (DS 3) de).env real tab N (n0+15)) N Tryz.f82 α [.ro lV l,.ro bp r] k =
 bif bZ l r==3&&!(bZ l r==0) then k (.ret (.tup [.ro bB [],.int .i64 3])) else none:=by kernel_rfl
set_option maxRecDepth 100000 in
theorem F8 (N n0:Nat) (α:Type) (l:List SnI) (r:List RdI) (k:AOut→Option α):am real tab ((twY (DS 7) de).env real tab N (n0+15)) N Tryz.f82 α [.ro lV l,.ro bp r] k =
 bif bZ l r==7&&!(bZ l r==0) then k (.ret (.tup [.ro bB [],.int .i64 7])) else none:=by kernel_rfl
theorem JP (l:List SnI) (r:List RdI):bZ l r=0∨bZ l r=2∨bZ l r=3∨bZ l r=7:=by
 unfold bZ iQ
 cases decide (r.length≤256)
 ·exact .inr (.inr (.inl rfl))
 cases eG l
 ·exact .inr (.inl rfl)
 cases nB (l.length:Int)&&qb (l.length:Int) r
 ·exact .inr (.inl rfl)
 cases x8 (l.length:Int).toNat r
 ·exact .inl rfl
 ·exact .inr (.inr (.inr rfl))
theorem vr:Tryz.f82.body=some scC:=by kernel_rfl
theorem yl:Tryz.f82.ntmps=35∧Tryz.f82.results.toList=[.tmp 4,.tmp 5]:=⟨by kernel_rfl,by kernel_rfl⟩
theorem JQ {l:List SnI} {r:List RdI} (h:bZ l r=0) {M:Nat→Prop} {w:World} {cargs:Array Value} (hM:∀b,M b→b<w.heap.size) (hl:2=cargs.size) (hr:∀(j:Nat) c z,([.ro lV l,.ro bp r]:List AVal)[j]?=some c→cargs[j]?=some z→Rep [] ⟨fun _=>Go.undef,M⟩ w c z) :
  Calls Tryz.prog 82 cargs w (kQ (fun _=>False) w (.ret (.tup [.ro bB (scL (tmL l (aW l.length r) 0) (tmL l (aW l.length r) 1)),.int .i64 0]))):=by
 have hb:(bZ l r==0)=true:=by rw[h]; rfl
 have hx:=DK h 0
 have hy:=DK h 1
 have t1:ev real tab ((twY DP de).env real tab 0 0) 0 sR1 ⟨[.ro lV l,.ro bp r,.undef,.undef,.own 0,.int .i64 0]++List.replicate 29 .undef,[s38 []]⟩ aO=some (.normal,⟨SV l r (aW l.length r) (tmL l (aW l.length r) 0) (tmL l (aW l.length r) 1),lW (tmL l (aW l.length r) 0) (tmL l (aW l.length r) 1)⟩):=by
  rw[QU,hb]; rfl
 refine (FI (K:=fun b=>b<w.heap.size) (g2:=Dz) bP Tryz.func82 vr (args:=[.ro lV l,.ro bp r]) (h1:=[.dead])
  (tm1:=aN [(9,.ro bB (scL (tmL l (aW l.length r) 0) (tmL l (aW l.length r) 1))),(34,.ro bB (scL (tmL l (aW l.length r) 0) (tmL l (aW l.length r) 1))),(4,.ro bB (scL (tmL l (aW l.length r) 0) (tmL l (aW l.length r) 1))),(5,.int .i64 0)])
  (vs:=[.ro bB (scL (tmL l (aW l.length r) 0) (tmL l (aW l.length r) 1)),.int .i64 0]) (by rw[yl.2]; rfl) (zi hM) hl hr fun a Q m fin=>?_).mono fun e w' hp=>rE (M:=fun _=>False) rfl hp
 rw[yl.1] at m
 generalize tmL l (aW l.length r) 0=x at *
 generalize tmL l (aW l.length r) 1=y at *
 rw[QS]
 refine o8 bG bP (bT bG bP (eV yg a8) 0 0) (SW 0 0 l r) m fun a1 w1 K1 g1 _ m1=>?_
 refine o8 bG bP (bT bG bP (eV yg a8) 0 0) t1 m1 fun a2 w2 K2 g2 _ m2=>?_
 have m2':Mid _ _ _ (lW x y) (aN [(7,.op 3 0),(8,.int .i64 0)]) a2 w2 K2 g2:=m2.weak [7,8]
 refine o8 bG bP (bT bG bP (eV eY a8) 0 0) (SX 0 0 x y) m2' fun a3 w3 K3 g3 _ m3=>?_
 have m3':Mid _ _ _ (lW x y) (aN [(7,.op 3 0)]) a3 w3 K3 g3:=m3.weak [7]
 refine o8 bG bP (bT bG bP (eV eY a8) 0 0) (SY 0 0 x y) m3' fun a4 w4 K4 g4 _ m4=>?_
 refine di (di (cL ?_))
 rw[jD.1]
 show wpOpsIn (FW none) 0 Tryz.prog sO5 _ [0,1,2] a4 w4
 refine aZ JC.1 JC.2.1 ?_
 refine Ja bP (bT bG bP (eV eY a8) 0 0) (QV 0 0 x y) m4 fun z5 w5 g5 _ m5=>?_
 rw[JC.2.2] at m5 ⊢
 have m5':Mid _ _ _ (lW x y++[s38 []]) (aN [(9,.own 4),(21,.agg [.ro bp x,.ro bp y])]) (a4.put (some 21) z5) w5 K4 g5:=m5.weak [9,21]
 generalize a4.put (some 21) z5=a5 at m5'
 have o4:(lW x y++[s38 []])[4]?=some (s38 []):=rfl
 have r9:Rep (lW x y++[s38 []]) g5 w5 (.own 4) (a5.tmps.getD 9 Go.undef):=m5'.tr.get 9
 have r21:Rep (lW x y++[s38 []]) g5 w5 (.agg [.ro bp x,.ro bp y]) (a5.tmps.getD 21 Go.undef):=m5'.tr.get 21
 obtain⟨v9,c9⟩:=ph r9 o4
 have q21:Rep [s38 []] ⟨fun _=>g5.ρ 4,g5.M⟩ w5 (.agg [.ro bp x,.ro bp y]) (a5.tmps.getD 21 Go.undef):=by
  generalize a5.tmps.getD 21 Go.undef=v at r21
  cases r21 with
  |agg _ arr hl hr=>
   refine .agg _ arr hl fun j c z hc hz=>?_
   have:=hr j c z hc hz
   match j,hc with
   |0,hc=>simp at hc; subst hc; exact Dy DQ this fun _ h=>h
   |1,hc=>simp at hc; subst hc; exact Dy DQ this fun _ h=>h
   |j+2,hc=>simp at hc
 have m6:=m5'.one (i:=4) (e:=bB) (by decide) vq o4 (tm':=aN [(9,.own 0),(21,.agg [.ro bp x,.ro bp y])]) (JM m5'.tr.1.symm (by decide) (by decide) (by decide) (.own 0 _ (cm.of (b:=s38 []) rfl (by simp)) c9 fun _ _ _ _ _=>v9) q21)
 refine aZ JD.1 JD.2.1 ?_
 refine Ja bP (bT bG bP (eV eY a8) 20 14) (QW 0 hx hy) m6 fun z7 w7 g7 _ m7=>?_
 rw[JD.2.2] at m7 ⊢
 exact aZ DL.1 DL.2.1 (Nz hx hy m7 fin)
theorem vu {M:Nat→Prop} {w:World} {e:Ending} {w':World} {n:Int} (h:kQ M w (.ret (.tup [.ro bB [],.int .i64 n])) e w'):kQ (fun _=>False) w (.ret (.tup [.ro bB [],.int .i64 n])) e w':=by
 obtain⟨M',m1,m2,m3,hb,z,e1,e2⟩:=h
 refine⟨fun _=>False,fun _ h=>h,fun _ h=>h.elim,fun _ h=>h.elim,hb,z,e1,?_⟩
 cases e2 with
 |tup _ arr hl hr=>
  refine .tup _ arr hl fun j c x hc hx=>?_
  have:=hr j c x hc hx
  match j,hc with
  |0,hc=>
   simp at hc; subst hc
   cases this with
   |ro0 _ p c h1 h2=>exact .ro0 bB p c h1 h2
   |ro1 _ _ b o c us h0=>exact absurd h0 (Nat.lt_irrefl 0)
  |1,hc=>
   simp at hc; subst hc
   cases this; exact .int _ _
  |j+2,hc=>simp at hc
theorem JR:FspNew Tryz.prog 82 F5 where
 enter:=enters_of Tryz.func82 (by kernel_rfl) vr
 nat:=by intro α args k; unfold F5; split<;>rfl
 calls:=fun args out hout M w cargs hM hl hr=>by
  unfold F5 at hout
  split at hout
  ·rename_i l r
   cases hout
   by_cases h:bZ l r=0
   ·have e:scR l r=scL (tmL l (aW l.length r) 0) (tmL l (aW l.length r) 1):=by unfold scR; rw[h]; rfl
    rw[e,h]
    exact JQ h hM hl hr
   ·have h1:(bZ l r==0)=false:=by simpa using h
    have e:scR l r=[]:=by unfold scR; rw[h1]; rfl
    rw[e]
    have en:∀args w,(callFunc 82 args).run Tryz.prog w=.ok (.enter 82 args) w:=enters_of Tryz.func82 (by kernel_rfl) vr
    rcases JP l r with h0|h0|h0|h0
    ·exact absurd h0 h
    ·rw[h0]; exact ((rF bG bP (bT bG bP (eV (ql 2) a8) 0 15) 0 Tryz.func82 en).calls _ _ ((F6 0 0 _ l r some).trans (by rw[h0]; rfl)) M w cargs hM hl hr).mono fun _ _=>vu
    ·rw[h0]; exact ((rF bG bP (bT bG bP (eV (ql 3) a8) 0 15) 0 Tryz.func82 en).calls _ _ ((F7 0 0 _ l r some).trans (by rw[h0]; rfl)) M w cargs hM hl hr).mono fun _ _=>vu
    ·rw[h0]; exact ((rF bG bP (bT bG bP (eV (ql 7) a8) 0 15) 0 Tryz.func82 en).calls _ _ ((F8 0 0 _ l r some).trans (by rw[h0]; rfl)) M w cargs hM hl hr).mono fun _ _=>vu
  ·cases hout
theorem DT:FspOk Tryz.prog 82 F5:=JR.ok
noncomputable def S8:FuncId→Option Fsp:=fun g=>if g=82 then some F5 else nj g
theorem NC:aD S8:=ae DT eY
def sdB (l:List SnI) (r:List RdI):List RdI:=bif bZ l r==0 then aW l.length r else []
def sdT (l:List SnI) (r:List RdI) (t:Int):List RdI:=bif bZ l r==0 then tmL l (aW l.length r) t else []
noncomputable def ND:Fsp:=fun _ args k=>match args with
 | [.ro (.recd (.cons (.int .i64) (.cons (.int .i64) (.cons (.recd (.cons (.int .i64) (.cons (.int .i64) .nil))) .nil)))) l,.ro (.recd (.cons (.int .i64) (.cons (.int .i64) (.cons (.int .i64) .nil)))) r]=>k (.ret (.tup [.ro bp (sdB l r),.agg [.ro bp (sdT l r 0),.ro bp (sdT l r 1)],.int .i64 (bZ l r)]))
 |_=>none
theorem NE:FspOk Tryz.prog 134 ND where
 enter:=gK.enter
 nat:=by intro α args k; unfold ND; split<;>rfl
 calls:=fun args out hout M w cargs hM hl hr=>by
  unfold ND at hout
  split at hout
  ·rename_i l r
   cases hout
   cases h:bZ l r==0
   ·have c:=gK.calls [.ro lV l,.ro bp r] (.ret (.tup [.nils,.agg [.ro bp [],.ro bp []],.int .i64 (bZ l r)])) (by
     show (bif bZ l r==0 then _ else _)=_
     rw[h]; rfl) M w cargs hM hl hr
    refine c.mono fun e w' hp=>?_
    obtain⟨M',p1,p2,p3,p4,x,p5,p6⟩:=hp
    refine⟨M',p1,p2,p3,p4,x,p5,?_⟩
    unfold sdB sdT
    rw[h]
    cases p6 with
    |tup _ arr hl hr=>
     refine .tup _ arr hl fun j c z hc hz=>?_
     match j,hc with
     |0,hc=>
      simp at hc; subst hc
      have:=hr 0 .nils z rfl hz
      cases this
      exact .ro0 bp none 0 (Nat.zero_le _) fun _=>rfl
     |1,hc=>exact hr 1 c z hc hz
     |2,hc=>exact hr 2 c z hc hz
     |j+3,hc=>simp at hc
   ·unfold sdB sdT
    rw[h]
    have h0:bZ l r=0:=by simpa using h
    exact gK.calls [.ro lV l,.ro bp r] _ (by
     show (bif bZ l r==0 then _ else _)=_
     rw[h,h0]; rfl) M w cargs hM hl hr
  ·cases hout
noncomputable def S9:FuncId→Option Fsp:=fun g=>
 if g=134 then some ND else
 if g=128 then some nP else
 S8 g
theorem NF:aD S9:=
 ae NE <|
 ae nQ <|
 NC
/-! Points. -/
/-! Doubts. -/
abbrev stE (l:List SnI) (i:Int):SnI:=l.getD i.toNat (0,0,(0,0,()),())
/-! Read. -/
noncomputable def Ta:FuncId→Option Fsp:=fun g=>
 S9 g
theorem NG:aD Ta:=
 NF
noncomputable def Tb:FuncId→Option Fsp:=fun g=>
 if g=133 then some uG else
 Ta g
theorem NH:aD Tb:=
 ae si <|
 NG
noncomputable def exE (l:List SnI) (i:Int):RdI:=(i,lenV (stE l i).2.2.1.1 (stE l i).2.2.1.2.1 1,lenV (stE l i).2.2.1.1 (stE l i).2.2.1.2.1 2,())
noncomputable def exF {α:Type} (l:List SnI) (x:List RdI × Int × Unit):Option (LRes (List RdI × Int × Unit) α):=
 bif decide (x.2.1<(l.length:Int)) then
  if 0≤x.2.1∧x.2.1<(l.length:Int) then
   if (x.1.length+[exE l x.2.1].length)*24≤room then some (.cont (x.1++[exE l x.2.1],IntKind.i64.wrap (x.2.1+1),())) else none
  else none
 else some (.brk 0 (x.1,x.2.1,()))
set_option maxRecDepth 100000 in
theorem JS (N n0:Nat) (α:Type) (l:List SnI) (k:AOut→Option α):am real tab ((twY Tb de).env real tab N (n0+12)) N Tryz.f81 α [.ro lV l] k =
 bif ni l != 0 then k (.ret (.tup [.ro bp [],.int .i64 (ni l)])) else ag (af N (exF l) ([],0,())) fun id y=>if id=0 then k (.ret (.tup [.ro bp y.1,.int .i64
 0])) else none:=by kernel_rfl
noncomputable def exN (l:List SnI) (i:Nat):List RdI:=(List.range i).map fun k:Nat=>exE l (k:Int)
theorem JT (l:List SnI) (i:Nat):exN l (i+1)=exN l i++[exE l (i:Int)]:=by
 unfold exN
 rw[List.range_succ,List.map_append]; rfl
theorem DU (l:List SnI) (i:Nat):(exN l i).length=i:=by
 unfold exN
 rw[List.length_map,List.length_range]
noncomputable def exL (l:List SnI):List RdI:=bif eG l then exN l l.length else []
theorem Q4 {α:Type} {f:List RdI × Int × Unit→Option (LRes (List RdI × Int × Unit) α)} (l:List SnI) (hl:l.length≤16)
  (hf:∀L i,i<l.length→(L.length+1)*24≤room→f (L,(i:Int),())=some (.cont (L++[exE l (i:Int)],((i+1:Nat):Int),()))) (hend:∀L,f (L,(l.length:Int),())=some (.brk 0 (L,(l.length:Int),()))) (K:Nat→List RdI × Int × Unit→Option α) :
  ag (af 20 f ([],0,())) K=K 0 (exN l l.length,(l.length:Int),()):=
 aB (f:=f) (fun i=>(exN l i,(i:Int),())) l.length (fun i hi=>by
  rw[JT]
  exact hf _ i hi (by rw[DU]; simp only[room]; omega)) (y:=(exN l l.length,(l.length:Int),())) (b:=0) (hend _) (by omega)
theorem Q5 {α:Type} (l:List SnI) (hl:l.length≤16) (L:List RdI) (i:Nat) (hi:i<l.length) (hr:(L.length+1)*24≤room):exF (α:=α) l (L,(i:Int),())=some (.cont (L++[exE l (i:Int)],((i+1:Nat):Int),())):=by
 have hmx:l.length≤maxLen:=by have:maxLen=9223372036854775807:=rfl; omega
 unfold exF
 simp only[aR hi,cond_true,aH hi,if_pos,and_self,ao hi hmx,List.length_cons,List.length_nil,Nat.zero_add,hr,decide_true]
noncomputable def exS:Fsp:=fun _ args k=>match args with
 | [.ro (.recd (.cons (.int .i64) (.cons (.int .i64) (.cons (.recd (.cons (.int .i64) (.cons (.int .i64) .nil))) .nil)))) l]=>k (.ret (.tup [.ro bp (exL l),.int .i64 (ni l)]))
 |_=>none
theorem NI:FspOk Tryz.prog 81 exS:=aq NH a8 ⟨Tryz.func81,fun _ _=>by kernel_rfl⟩ (by intro α args k; unfold exS; split<;>rfl) fun args out hSm hEq=>by
 unfold exS at hEq
 split at hEq
 ·rename_i l
  refine⟨20,12,(JS 20 0 AOut l some).trans (Eq.trans ?_ hEq)⟩
  unfold exL ni
  cases h:eG l
  ·rfl
  ·have hl:=(iR h).1
   refine (Q4 (f:=exF l) l hl (Q5 l hl) (fun L=>by unfold exF; simp only[ap,cond_false]) _).trans ?_
   rfl
 ·cases hEq
/-! Check and Read of the reference. -/
/-! The score of distances. -/
def dsM (l:List SnI) (d:List Int) (t:Int) (i:Nat):Int:=((List.range i).filter fun k=>(l.getD k snD).1==t).foldl (fun a k=>min a (d.getD k 0)) 129368065
theorem JU (l:List SnI) (d:List Int) (t:Int) (i:Nat):dsM l d t (i+1)=bif (l.getD i snD).1==t then min (dsM l d t i) (d.getD i 0) else dsM l d t i:=by
 unfold dsM
 rw[List.range_succ,List.filter_append,List.foldl_append]
 have e:List.filter (fun k=>(l.getD k snD).1==t) [i]=bif (l.getD i snD).1==t then [i] else []:=by
  rw[List.filter_cons]
  cases (l.getD i snD).1==t<;>rfl
 rw[e]
 cases (l.getD i snD).1==t<;>rfl
def dsC (l:List SnI) (d:List Int) (t m:Int) (i:Nat):Nat:=(List.range i).countP fun k=>(l.getD k snD).1==t&&decide (d.getD k 0<m)
def dsS (l:List SnI) (d:List Int):ScI:=
 bif dsM l d 0 l.length==dsM l d 1 l.length then (-1,0,()) else
 bif decide (dsM l d 1 l.length<dsM l d 0 l.length) then (1,(dsC l d 1 (dsM l d 0 l.length) l.length:Int),()) else (0,(dsC l d 0 (dsM l d 1 l.length) l.length:Int),())
/-! Is a score among some? -/
theorem k5 (l:List SnI) (d:List Int) (t:Int):∀i,dsM l d t i≤129368065∧(∀k,k<i→(l.getD k snD).1=t→dsM l d t i≤d.getD k 0)∧(dsM l d t i=129368065∨∃k,k<i∧(l.getD k snD).1=t∧dsM l d t i=d.getD k 0)
 |0=>⟨Int.le_refl _,fun k h=>absurd h (Nat.not_lt_zero k),.inl rfl⟩
 |i+1=>by
  obtain⟨h1,h2,h3⟩:=k5 l d t i
  rw[JU]
  cases ht:(l.getD i snD).1==t
  ·refine⟨h1,fun k hk e=>?_,?_⟩
   ·rcases Nat.lt_succ_iff_lt_or_eq.1 hk with h|rfl
    ·exact h2 k h e
    ·rw[e] at ht; simp at ht
   ·rcases h3 with h|⟨k,q1,q2,q3⟩
    ·exact .inl h
    ·exact .inr ⟨k,by omega,q2,q3⟩
  ·rw[cond_true]
   have ht':(l.getD i snD).1=t:=by simpa using ht
   refine⟨by omega,fun k hk e=>?_,?_⟩
   ·rcases Nat.lt_succ_iff_lt_or_eq.1 hk with h|rfl
    ·have:=h2 k h e; omega
    ·omega
   ·by_cases hm:dsM l d t i≤d.getD i 0
    ·rw[Int.min_eq_left hm]
     rcases h3 with h|⟨k,q1,q2,q3⟩
     ·exact .inl h
     ·exact .inr ⟨k,by omega,q2,q3⟩
    ·rw[Int.min_eq_right (by omega)]
     exact .inr ⟨i,Nat.lt_succ_self i,ht',rfl⟩
theorem ia (f:RdI→Int):∀(l:List RdI) (a:Int),l.foldl (fun a r=>min a (f r)) a≤a∧(∀r∈l,l.foldl (fun a r=>min a (f r)) a≤f r)∧(l.foldl (fun a r=>min a (f r)) a=a∨∃r∈l,l.foldl (fun a r=>min a (f r)) a=f r)
 | [],a=>⟨Int.le_refl _,fun r h=>absurd h List.not_mem_nil,.inl rfl⟩
 |x::l,a=>by
  obtain⟨h1,h2,h3⟩:=ia f l (min a (f x))
  simp only[List.foldl_cons]
  refine⟨by omega,fun r hr=>?_,?_⟩
  ·rcases List.mem_cons.1 hr with rfl|h
   ·omega
   ·exact h2 r h
  ·rcases h3 with h|⟨r,hr,h⟩
   ·by_cases hm:a≤f x
    ·exact .inl (by rw[h]; omega)
    ·exact .inr ⟨x,List.mem_cons_self,by rw[h]; omega⟩
   ·exact .inr ⟨r,List.mem_cons_of_mem _ hr,h⟩
def dIn (l:List SnI) (b:List RdI) (d:List Int):Prop:=∀k,k<l.length→(b.getD k rdD).lo≤d.getD k 0∧d.getD k 0≤(b.getD k rdD).hi
theorem vz {l:List SnI} {b:List RdI} {t:Int} {r:RdI}:r∈tmL l b t↔∃k,k<l.length∧(l.getD k snD).1=t∧b.getD k rdD=r:=by
 unfold tmL tmN
 rw[List.mem_map]
 constructor
 ·rintro⟨k,hk,e⟩
  obtain⟨h1,h2⟩:=List.mem_filter.1 hk
  exact⟨k,List.mem_range.1 h1,by simpa using h2,e⟩
 ·rintro⟨k,h1,h2,e⟩
  exact⟨k,List.mem_filter.2 ⟨List.mem_range.2 h1,by simpa using h2⟩,e⟩
theorem qn {l:List SnI} {b:List RdI} {d:List Int} (h:dIn l b d) (t:Int):bg (tmL l b t)≤dsM l d t l.length:=by
 obtain⟨h1,h2,h3⟩:=k5 l d t l.length
 obtain⟨g1,g2,g3⟩:=ia (fun r=>r.lo) (tmL l b t) 129368065
 unfold bg
 rcases h3 with e|⟨k,k1,k2,k3⟩
 ·rw[e]; exact g1
 ·have:=g2 _ (vz.2 ⟨k,k1,k2,rfl⟩)
  have:=h k k1
  omega
theorem qo {l:List SnI} {b:List RdI} {d:List Int} (h:dIn l b d) (t:Int):dsM l d t l.length≤bk (tmL l b t)∨(dsM l d t l.length=129368065∧awB (tmL l b t)=true):=by
 obtain⟨h1,h2,h3⟩:=k5 l d t l.length
 obtain⟨g1,g2,g3⟩:=ia (fun r=>r.hi) (tmL l b t) 129368064
 by_cases hm:dsM l d t l.length≤bk (tmL l b t)
 ·exact .inl hm
 ·right
  rcases g3 with e|⟨r,hr,e⟩
  ·have e':bk (tmL l b t)=129368064:=e
   have h5:dsM l d t l.length=129368065:=by omega
   refine⟨h5,?_⟩
   unfold awB
   rw[Bool.not_eq_true',List.any_eq_false]
   intro q hq
   rw[decide_eq_true_eq]
   obtain⟨k,k1,k2,rfl⟩:=vz.1 hq
   have:=h2 k k1 k2
   have:=h k k1
   omega
  ·exfalso
   obtain⟨k,k1,k2,rfl⟩:=vz.1 hr
   have e':bk (tmL l b t)=(b.getD k rdD).hi:=e
   have:=h2 k k1 k2
   have:=h k k1
   omega
theorem NJ (l:List SnI) (b:List RdI) (t m:Int):mustN (tmL l b t) m=(List.range l.length).countP fun k=>(l.getD k snD).1==t&&decide ((b.getD k rdD).hi≤m):=by
 unfold mustN tmL tmN
 rw[List.countP_map,List.countP_filter]
 refine List.countP_congr fun k _=>?_
 simp only[Function.comp]
 rw[Bool.and_comm]
theorem Q6 (l:List SnI) (b:List RdI) (t m:Int):canN (tmL l b t) m=(List.range l.length).countP fun k=>(l.getD k snD).1==t&&decide ((b.getD k rdD).lo≤m):=by
 unfold canN tmL tmN
 rw[List.countP_map,List.countP_filter]
 refine List.countP_congr fun k _=>?_
 simp only[Function.comp]
 rw[Bool.and_comm]
theorem JV {l:List SnI} {b:List RdI} {d:List Int} (h:dIn l b d) (t m:Int):mustN (tmL l b t) (m-1)≤dsC l d t m l.length∧dsC l d t m l.length≤canN (tmL l b t) (m-1):=by
 rw[NJ,Q6]
 unfold dsC
 constructor
 ·refine List.countP_mono_left fun k hk hp=>?_
  rw[Bool.and_eq_true,decide_eq_true_eq] at hp ⊢
  have:=h k (List.mem_range.1 hk)
  exact⟨hp.1,by omega⟩
 ·refine List.countP_mono_left fun k hk hp=>?_
  rw[Bool.and_eq_true,decide_eq_true_eq] at hp ⊢
  have:=h k (List.mem_range.1 hk)
  exact⟨hp.1,by omega⟩
theorem F9 {l:List SnI} {d:List Int} {t m:Int} (h:dsM l d t l.length<m) (hm:m≤129368065):1≤dsC l d t m l.length:=by
 obtain⟨h1,h2,h3⟩:=k5 l d t l.length
 rcases h3 with e|⟨k,k1,k2,k3⟩
 ·omega
 ·unfold dsC
  refine List.countP_pos_iff.2 ⟨k,List.mem_range.2 k1,?_⟩
  rw[Bool.and_eq_true,decide_eq_true_eq,beq_iff_eq]
  exact⟨k2,by omega⟩
theorem greatest (x0 L:Int) (h0:x0≤L):∀X:List Int,∃y,(y=x0∨y∈X)∧x0≤y∧y≤L∧∀z∈X,z≤L→z≤y
 | []=>⟨x0,.inl rfl,Int.le_refl _,h0,fun z h=>absurd h List.not_mem_nil⟩
 |q::X=>by
  obtain⟨y,h1,h2,h3,h4⟩:=greatest x0 L h0 X
  by_cases hq:q≤L∧y<q
  ·refine⟨q,.inr List.mem_cons_self,by omega,hq.1,fun z hz hl=>?_⟩
   rcases List.mem_cons.1 hz with rfl|h
   ·exact Int.le_refl _
   ·have:=h4 z h hl; omega
  ·refine⟨y,h1.imp id fun h=>List.mem_cons_of_mem _ h,h2,h3,fun z hz hl=>?_⟩
   rcases List.mem_cons.1 hz with rfl|h
   ·omega
   ·exact h4 z h hl
theorem Bi (s o:List RdI) (m:Int) (h1:bg o≤m) (h2:m≤bk o):∃d∈lims s o,mustN s d=mustN s (m-1)∧canN s d=canN s (m-1):=by
 obtain⟨y,hy1,hy2,hy3,hy4⟩:=greatest (bg o-1) (m-1) (by omega) (s.flatMap (vk o))
 have inL:∀r∈s,∀z,(z=r.lo∨z=r.hi)→z≤m-1→z≤y:=fun r hr z hz hl=>by
  by_cases hz1:z≤bg o-1
  ·omega
  ·refine hy4 z (List.mem_flatMap.2 ⟨r,hr,?_⟩) hl
   unfold vk
   refine List.mem_filter.2 ⟨?_,?_⟩
   ·rcases hz with rfl|rfl
    ·exact List.mem_cons_self
    ·exact List.mem_cons_of_mem _ List.mem_cons_self
   ·rw[Bool.and_eq_true,decide_eq_true_eq,decide_eq_true_eq]; omega
 refine⟨y,?_,?_,?_⟩
 ·unfold lims
  rw[decide_eq_true (show bg o≤bk o by omega),cond_true]
  refine List.mem_append_right _ ?_
  rcases hy1 with rfl|h
  ·exact List.mem_cons_self
  ·exact List.mem_cons_of_mem _ h
 ·unfold mustN
  refine List.countP_congr fun r hr=>?_
  rw[decide_eq_true_eq,decide_eq_true_eq]
  exact⟨fun h=>by omega,fun h=>inL r hr _ (.inr rfl) h⟩
 ·unfold canN
  refine List.countP_congr fun r hr=>?_
  rw[decide_eq_true_eq,decide_eq_true_eq]
  exact⟨fun h=>by omega,fun h=>inL r hr _ (.inl rfl) h⟩
theorem qp {l:List SnI} {b:List RdI} {d:List Int} (h:dIn l b d) (hl:l.length≤16) (t o:Int) (hlt:dsM l d t l.length<dsM l d o l.length):(t,(dsC l d t (dsM l d o l.length) l.length:Int),())∈scT (tmL l b t) (tmL l b o) t:=by
 have h16:(tmL l b t).length≤16:=Nat.le_trans (pe _ _ _ _) hl
 refine (vm _ _ t h16 _).1 ?_
 obtain⟨c1,c2⟩:=JV h t (dsM l d o l.length)
 have hM:=(k5 l d o l.length).1
 have c0:=F9 hlt hM
 rcases qo h o with hh|⟨hh,ha⟩
 ·obtain⟨z,z1,z2,z3⟩:=Bi (tmL l b t) (tmL l b o) (dsM l d o l.length) (qn h o) hh
  exact⟨z,z1,_,by omega,by omega,rfl⟩
 ·refine⟨129368064,?_,_,?_,?_,rfl⟩
  ·unfold lims
   rw[ha,cond_true]
   exact List.mem_append_left _ (List.mem_singleton.2 rfl)
  ·rw[hh] at c1 c0 ⊢
   have e:(129368065:Int)-1=129368064:=by omega
   rw[e] at c1
   omega
  ·rw[hh] at c2 ⊢
   have e:(129368065:Int)-1=129368064:=by omega
   rw[e] at c2
   exact c2
theorem ym {l:List SnI} {b:List RdI} {d:List Int} (h:dIn l b d) (hl:l.length≤16):dsS l d∈scL (tmL l b 0) (tmL l b 1):=by
 unfold dsS
 cases he:dsM l d 0 l.length==dsM l d 1 l.length
 ·rw[cond_false]
  have hne:dsM l d 0 l.length≠dsM l d 1 l.length:=by
   intro e; rw[e] at he; simp at he
  by_cases hlt:dsM l d 1 l.length<dsM l d 0 l.length
  ·rw[decide_eq_true hlt,cond_true]
   exact List.mem_append_right _ (List.mem_append_right _ (qp h hl 1 0 hlt))
  ·rw[decide_eq_false hlt,cond_false]
   exact List.mem_append_right _ (List.mem_append_left _ (qp h hl 0 1 (by omega)))
 ·rw[cond_true]
  have e:dsM l d 0 l.length=dsM l d 1 l.length:=by simpa using he
  have ht:oN (tmL l b 0) (tmL l b 1)=true:=by
   unfold oN
   rw[Bool.or_eq_true,Bool.and_eq_true,decide_eq_true_eq]
   have a1:=qn h 0
   have a2:=qn h 1
   rcases qo h 0 with h0|⟨h0,q0⟩<;>rcases qo h 1 with h1|⟨h1,q1⟩
   ·right; omega
   ·have:=(ia (fun r=>r.hi) (tmL l b 0) 129368064).1
    have:bk (tmL l b 0)≤129368064:=this
    omega
   ·have:=(ia (fun r=>r.hi) (tmL l b 1) 129368064).1
    have:bk (tmL l b 1)≤129368064:=this
    omega
   ·exact .inl ⟨q0,q1⟩
  unfold scL
  rw[ht,cond_true]
  exact List.mem_append_left _ (List.mem_singleton.2 rfl)
theorem PT {x y:Int} (hx:-6553600000≤x∧x≤6553600000) (hy:-6553600000≤y∧y≤6553600000):lenV x y 1=rt (sq2 x y)∧lenV x y 2=rtN (sq2 x y) 2∧0≤rt (sq2 x y)∧rt (sq2 x y)*rt (sq2 x y)≤sq2 x y∧sq2 x y≤rtN (sq2 x y) 2*rtN (sq2 x y) 2∧rt (sq2 x y)≤rtN (sq2 x y) 2∧rtN (sq2 x y) 2≤70368744177664:=by
 have ax:0≤ab x∧ab x≤6553600000:=by unfold ab; split<;>omega
 have ay:0≤ab y∧ab y≤6553600000:=by unfold ab; split<;>omega
 have m1:0≤ab x*ab x∧ab x*ab x≤6553600000*6553600000:=⟨Int.mul_nonneg ax.1 ax.1,Int.mul_le_mul ax.2 ax.2 ax.1 (by omega)⟩
 have m2:0≤ab y*ab y∧ab y*ab y≤6553600000*6553600000:=⟨Int.mul_nonneg ay.1 ay.1,Int.mul_le_mul ay.2 ay.2 ay.1 (by omega)⟩
 have hs:0≤sq2 x y∧sq2 x y≤85899345920000000000:=by unfold sq2; omega
 obtain⟨r0,r1,r2,_⟩:=pH hs.1 (by omega)
 have r3:rt (sq2 x y)≤70368744177663:=by
  refine Int.not_lt.1 fun h=>?_
  have:70368744177664*70368744177664≤rt (sq2 x y)*rt (sq2 x y):=Int.mul_le_mul (by omega) (by omega) (by omega) r0
  omega
 have hB1:wa x y 1=true:=by
  unfold wa
  rw[d8.2 (show -70368744177664≤x∧x≤70368744177664 by omega),d8.2 (show -70368744177664≤y∧y≤70368744177664 by omega)]; rfl
 have hB2:wa x y 2=true:=by
  unfold wa
  rw[d8.2 (show -70368744177664≤x∧x≤70368744177664 by omega),d8.2 (show -70368744177664≤y∧y≤70368744177664 by omega)]; rfl
 have e1:rtN (sq2 x y) 1=rt (sq2 x y):=Int.add_zero _
 have e2:rtN (sq2 x y) 2=rt (sq2 x y)+bif !(rt (sq2 x y)*rt (sq2 x y)==sq2 x y) then 1 else 0:=rfl
 have hf:∀n:Int,n≤70368744177664→fxV false n=n:=fun n h=>by
  unfold fxV fxB
  rw[decide_eq_true h]; rfl
 have e3:rt (sq2 x y)≤rtN (sq2 x y) 2∧rtN (sq2 x y) 2≤rt (sq2 x y)+1∧sq2 x y≤rtN (sq2 x y) 2*rtN (sq2 x y) 2:=by
  rw[e2]
  cases hq:rt (sq2 x y)*rt (sq2 x y)==sq2 x y
  ·refine⟨by simp only[Bool.not_false,cond_true]; omega,by simp only[Bool.not_false,cond_true]; omega,?_⟩
   show _≤(rt (sq2 x y)+1)*(rt (sq2 x y)+1)
   omega
  ·rw[beq_iff_eq] at hq
   refine⟨by simp only[Bool.not_true,cond_false]; omega,by simp only[Bool.not_true,cond_false]; omega,?_⟩
   show _≤(rt (sq2 x y)+0)*(rt (sq2 x y)+0)
   rw[Int.add_zero,hq]
   exact Int.le_refl _
 refine⟨?_,?_,r0,r1,e3.2.2,e3.1,by omega⟩
 ·unfold lenV
  rw[hB1,cond_true,e1,hf _ (by omega)]
 ·unfold lenV
  rw[hB2,cond_true,hf _ (by omega)]
/-! Bounds of readings. -/
theorem Q7 (k:Nat) (c:Int) (h0:0≤c) (l:List RdI) (h:∀r∈l,r.1=(k:Int)→r.lo≤c):bLo l k≤c:=by
 unfold bLo
 have:∀(l:List RdI) (a:Int),(∀r∈l,r.1=(k:Int)→r.lo≤c)→a≤c→l.foldl (fun a r=>if r.1=(k:Int) then max a r.lo else a) a≤c:=by
  intro l
  induction l with
  |nil=>intro a _ h; exact h
  |cons r l ih=>
   intro a hr ha
   refine ih _ (fun q hq=>hr q (List.mem_cons_of_mem _ hq)) ?_
   show (if r.1=(k:Int) then max a r.lo else a)≤c
   have:=hr r List.mem_cons_self
   split
   ·rename_i e; have:=this e; omega
   ·exact ha
 exact this l 0 h h0
theorem Q8 (k:Nat) (c:Int) (h0:c≤70368744177664) (l:List RdI) (h:∀r∈l,r.1=(k:Int)→c≤r.hi):c≤bHi l k:=by
 unfold bHi
 have:∀(l:List RdI) (a:Int),(∀r∈l,r.1=(k:Int)→c≤r.hi)→c≤a→c≤l.foldl (fun a r=>if r.1=(k:Int) then min a r.hi else a) a:=by
  intro l
  induction l with
  |nil=>intro a _ h; exact h
  |cons r l ih=>
   intro a hr ha
   refine ih _ (fun q hq=>hr q (List.mem_cons_of_mem _ hq)) ?_
   show c≤(if r.1=(k:Int) then min a r.hi else a)
   have:=hr r List.mem_cons_self
   split
   ·rename_i e; have:=this e; omega
   ·exact ha
 exact this l _ h h0
theorem DV {l:List SnI} (h:eG l=true):(exL l).length=l.length:=by
 unfold exL
 rw[h,cond_true,DU]
theorem JW {l:List SnI} (h:eG l=true) {k:Nat} (hk:k<l.length):(-6553600000≤(l.getD k snD).x∧(l.getD k snD).x≤6553600000)∧(-6553600000≤(l.getD k snD).y∧(l.getD k snD).y≤6553600000):=by
 have:=(iR h).2 k hk
 unfold snV at this
 simp only[Bool.and_eq_true,decide_eq_true_eq] at this
 exact⟨this.1,this.2.1⟩
theorem Tc (l:List SnI) (k:Nat):exE l (k:Int)=((k:Int),lenV (l.getD k snD).x (l.getD k snD).y 1,lenV (l.getD k snD).x (l.getD k snD).y 2,()):=rfl
theorem tK {l:List SnI} (h:eG l=true) {k:Nat} (hk:k<l.length):0≤(exE l (k:Int)).lo∧(exE l (k:Int)).lo≤(exE l (k:Int)).hi∧(exE l (k:Int)).hi≤70368744177664:=by
 obtain⟨hx,hy⟩:=JW h hk
 obtain⟨d1,d2,d3,_,_,d6,d7⟩:=PT hx hy
 rw[Tc]
 show 0≤lenV _ _ 1∧lenV _ _ 1≤lenV _ _ 2∧lenV _ _ 2≤_
 rw[d1,d2]
 exact⟨d3,d6,d7⟩
theorem vA {l:List SnI} (h:eG l=true) {r:RdI} (hr:r∈exL l):∃k:Nat,k<l.length∧exE l (k:Int)=r:=by
 unfold exL exN at hr
 rw[h,cond_true] at hr
 obtain⟨k,hk,e⟩:=List.mem_map.1 hr
 exact⟨k,List.mem_range.1 hk,e⟩
theorem JX {l:List SnI} (h:eG l=true):bZ l (exL l)=0∧∀k,k<l.length→bLo (exL l) k≤(exE l (k:Int)).lo∧(exE l (k:Int)).hi≤bHi (exL l) k:=by
 have hl:=(iR h).1
 have lo:∀k,k<l.length→bLo (exL l) k≤(exE l (k:Int)).lo:=fun k hk=>Q7 k _ (tK h hk).1 _ fun r hr e=>by
  obtain⟨j,hj,rfl⟩:=vA h hr
  have e':(j:Int)=k:=e
  have:j=k:=by omega
  subst this
  exact Int.le_refl _
 have hi:∀k,k<l.length→(exE l (k:Int)).hi≤bHi (exL l) k:=fun k hk=>Q8 k _ (tK h hk).2.2 _ fun r hr e=>by
  obtain⟨j,hj,rfl⟩:=vA h hr
  have e':(j:Int)=k:=e
  have:j=k:=by omega
  subst this
  exact Int.le_refl _
 refine⟨?_,fun k hk=>⟨lo k hk,hi k hk⟩⟩
 have hlen:(exL l).length≤256:=by rw[DV h]; omega
 unfold bZ
 rw[decide_eq_true hlen,cond_true,h,cond_true]
 unfold iQ
 have n1:nB (l.length:Int)=true:=by unfold nB; rw[decide_eq_true (by omega),decide_eq_true (by omega)]; rfl
 have n2:qb (l.length:Int) (exL l)=true:=by
  unfold qb
  rw[Bool.not_eq_true',List.any_eq_false]
  intro r hr
  obtain⟨j,hj,rfl⟩:=vA h hr
  have q:=tK h hj
  have:kJ (l.length:Int) (exE l (j:Int))=true:=by
   unfold kJ
   simp only[Bool.and_eq_true,decide_eq_true_eq]
   exact⟨⟨by show (0:Int)≤j; omega,by show (j:Int)≤_; omega⟩,q.1,q.2.1,q.2.2⟩
  rw[this]; exact Bool.noConfusion
 have n3:x8 l.length (exL l)=false:=by
  unfold x8
  rw[List.any_eq_false]
  intro k hk
  have hk':=List.mem_range.1 hk
  have h1:=lo k hk'
  have h2:=hi k hk'
  have h3:=tK h hk'
  rw[decide_eq_true_eq]
  omega
 rw[decide_eq_true hlen,n1,n2,Int.toNat_natCast,n3]
 rfl
noncomputable def xsc (l:List SnI):List ScI:=scR l (exL l)
theorem NK {l:List SnI} (h:eG l=true):0<(xsc l).length:=by
 obtain⟨e,hb⟩:=JX h
 have hl:=(iR h).1
 have hlen:=DV h
 have hm:=ym (l:=l) (b:=aW l.length (exL l)) (d:=(List.range l.length).map fun k:Nat=>(exE l (k:Int)).lo) (fun k hk=>by
  rw[jC _ _ hk,List.getD_eq_getElem?_getD,List.getElem?_map,List.getElem?_range hk]
  obtain⟨h1,h2⟩:=hb k hk
  have:=tK h hk
  exact⟨h1,by show (exE l (k:Int)).lo≤bHi (exL l) k; omega⟩) hl
 unfold xsc scR
 rw[e,show ((0:Int)==0)=true from rfl,cond_true]
 exact List.length_pos_of_mem hm
theorem NL (l:List SnI):(xsc l).length≤33:=by
 unfold xsc scR
 cases bZ l (exL l)==0
 ·exact Nat.zero_le _
 ·exact vo _ _
def nl (cx cy sd w h:Int) (pb po:List Int) (fl ke sw be we:Int) (el:Int) (l:List BdI) (c:Bool):Bool:=ct cx cy sd w h pb po&&(bR fl ke sw be we&&(bz l&&(c&&(decide (0≤el)&&decide (el≤1000)))))
noncomputable def NM:Fsp:=fun _ args k=>match args with
 | [.agg [.int .i64 cx,.int .i64 cy,.int .i64 sd,.int .i64 w,.int .i64 h,.ro (.int .i64) pb,.ro (.int .i64) po,.int .i64 fl,.int .i64 ke,.int .i64 sw,.int .i64 be,.int .i64 we,.int .i64 el,.ro (.recd (.cons (.int .i64) (.cons (.int .i64) (.cons (.recd (.cons (.recd (.cons (.int .i64) (.cons (.int .i64) .nil))) (.cons (.recd (.cons (.int .i64) (.cons (.int .i64) .nil))) (.cons (.int .i64) .nil)))) (.cons .bool .nil))))) l],.agg [.int .i64 t,.int .i64 n,.int .i64 x,.int .i64 y,.int .i64 u,.int .i64 v,.int .i64 s,.ro (.recd (.cons (.int .i64) (.cons (.int .i64) (.cons (.int .i64) .nil)))) b,.int .i64 p,.int .i64 q]]=>k (b1 (nl cx cy sd w h pb po fl ke sw be we el l (ccB t n x y u v s b p q)))
 |_=>none
theorem JY (N n0:Nat) (α:Type) (cx cy sd w h:Int) (pb po:List Int) (fl ke sw be we:Int) (el:Int) (l:List BdI) (t n x y u v s:Int) (b:List BrI) (p q:Int) (k:AOut→Option α):am real tab ((twY Dt HE).env real tab N (n0+12)) N Tryz.f27 α [.agg [.int .i64 cx,.int .i64 cy,.int .i64 sd,.int .i64 w,.int .i64 h,.ro (.int .i64) pb,.ro (.int .i64) po,.int .i64 fl,.int .i64 ke,.int .i64 sw,.int .i64 be,.int .i64 we,.int .i64 el,.ro (.recd (.cons (.int .i64) (.cons (.int .i64) (.cons (.recd (.cons (.recd (.cons (.int .i64) (.cons (.int .i64) .nil))) (.cons (.recd (.cons (.int .i64) (.cons (.int .i64) .nil))) (.cons (.int .i64) .nil)))) (.cons .bool .nil))))) l],.agg [.int .i64 t,.int .i64 n,.int .i64 x,.int .i64 y,.int .i64 u,.int .i64 v,.int .i64 s,.ro (.recd (.cons (.int .i64) (.cons (.int .i64) (.cons (.int .i64) .nil)))) b,.int .i64 p,.int .i64 q]] k =
 bif er2 (ct cx cy sd w h pb po)==0 then bif er2 (bR fl ke sw be we)==0 then bif dw l==0 then bif er2 (ccB t n x y u v s b p q)==0 then bif decide (0≤el) then k (b1
 (decide (el≤1000))) else k (b1 false) else k (b1 false) else k (b1 false) else k (b1 false) else k (b1 false):=by kernel_rfl
theorem NN:FspOk Tryz.prog 27 NM:=aq pY mR ⟨Tryz.func27,fun _ _=>by kernel_rfl⟩ (by intro α args k; unfold NM; split<;>rfl) fun args out hSm hEq=>by
 unfold NM at hEq
 split at hEq
 ·rename_i cx cy sd w h pb po fl ke sw be we el l t n x y u v s b p q
  refine⟨1,12,(JY 1 0 AOut cx cy sd w h pb po fl ke sw be we el l t n x y u v s b p q some).trans (Eq.trans ?_ hEq)⟩
  unfold nl er2 dw
  cases ct cx cy sd w h pb po<;>cases bR fl ke sw be we<;>cases bz l<;>cases ccB t n x y u v s b p q<;>cases decide (0≤el)<;>cases decide (el≤1000)<;>rfl
 ·cases hEq
noncomputable def DW:FuncId→Option Fsp:=fun g=>
 if g=27 then some NM else
 if g=39 then some M9 else
 if g=81 then some exS else
 if g=82 then some F5 else
 Je g
theorem qq:aD DW:=
 ae NN <|
 ae Na <|
 ae NI <|
 ae DT <|
 x7
/-! End. -/
def enV (cx cy sd w h:Int) (pb po:List Int) (fl ke sw be we:Int) (el:Int) (l:List BdI) (t n x y u v s:Int) (b:List BrI) (p q:Int) (m:Int):Bool:=nl cx cy sd w h pb po fl ke sw be we el l (ccB t n x y u v s b p q)&&(decide (0≤m)&&decide (m≤48))
noncomputable def enJ (cx cy sd w h:Int) (pb po:List Int) (fl ke sw be we:Int) (el:Int) (l:List BdI) (t n x y u v s:Int) (b:List BrI) (p q:Int) (m:Int):Int:=bif enV cx cy sd w h pb po fl ke sw be we el l t n x y u v s b p q m then enE cx cy sd w h pb po fl ke sw be we el l t n x y u v s b p q m else 2
noncomputable def enW (cx cy sd w h:Int) (pb po:List Int) (fl ke sw be we:Int) (el:Int) (l:List BdI) (t n x y u v s:Int) (b:List BrI) (p q:Int) (m:Int):List BdI:=bif enJ cx cy sd w h pb po fl ke sw be we el l t n x y u v s b p q m==0 then enR cx cy sd w h pb po fl ke sw be we el l t n x y u v s b p q m else []
theorem Ga (N n0:Nat) (α:Type) (cx cy sd w h:Int) (pb po:List Int) (fl ke sw be we:Int) (el:Int) (l:List BdI) (t n x y u v s:Int) (b:List BrI) (p q:Int) (m:Int) (k:AOut→Option α):am real tab ((twY DW FL).env real tab N (n0+14)) N Tryz.f10 α [.agg [.int .i64 cx,.int .i64 cy,.int .i64 sd,.int .i64 w,.int .i64 h,.ro (.int .i64) pb,.ro (.int .i64) po],.agg [.int .i64 fl,.int .i64 ke,.int .i64 sw,.int .i64 be,.int .i64 we],.ro (.recd (.cons (.int .i64) (.cons (.int .i64) (.cons (.recd (.cons (.recd (.cons (.int .i64) (.cons (.int .i64) .nil))) (.cons (.recd (.cons (.int .i64) (.cons (.int .i64) .nil))) (.cons (.int .i64) .nil)))) (.cons .bool .nil))))) l,.agg [.int .i64 t,.int .i64 n,.int .i64 x,.int .i64 y,.int .i64 u,.int .i64 v,.int .i64 s,.ro (.recd (.cons (.int .i64) (.cons (.int .i64) (.cons (.int .i64) .nil)))) b,.int .i64 p,.int .i64 q],.int .i64 el,.int .i64 m] k =
 bif !nl cx cy sd w h pb po fl ke sw be we el l (ccB t n x y u v s b p q) then k (.ret (.tup [.nils,.int .i64 2])) else bif decide (0≤m) then bif !decide (m≤48) then k (.ret
 (.tup [.nils,.int .i64 2])) else bif enE cx cy sd w h pb po fl ke sw be we el l t n x y u v s b p q m==0 then k (.ret (.tup [.ro (.recd (.cons (.int .i64) (.cons (.int .i64)
 (.cons (.recd (.cons (.recd (.cons (.int .i64) (.cons (.int .i64) .nil))) (.cons (.recd (.cons (.int .i64) (.cons (.int .i64) .nil))) (.cons (.int .i64) .nil)))) (.cons .bool
 .nil))))) (enR cx cy sd w h pb po fl ke sw be we el l t n x y u v s b p q m),.int .i64 0])) else k (.ret (.tup [.ro (.recd (.cons (.int .i64) (.cons (.int .i64) (.cons (.recd
 (.cons (.recd (.cons (.int .i64) (.cons (.int .i64) .nil))) (.cons (.recd (.cons (.int .i64) (.cons (.int .i64) .nil))) (.cons (.int .i64) .nil)))) (.cons .bool .nil))))) ([]:List
 BdI),.int .i64 (enE cx cy sd w h pb po fl ke sw be we el l t n x y u v s b p q m)])) else k (.ret (.tup [.nils,.int .i64 2])):=by kernel_rfl
noncomputable def qs:Fsp:=fun _ args k=>match args with
 | [.agg [.int .i64 cx,.int .i64 cy,.int .i64 sd,.int .i64 w,.int .i64 h,.ro (.int .i64) pb,.ro (.int .i64) po],.agg [.int .i64 fl,.int .i64 ke,.int .i64 sw,.int .i64 be,.int .i64 we],.ro (.recd (.cons (.int .i64) (.cons (.int .i64) (.cons (.recd (.cons (.recd (.cons (.int .i64) (.cons (.int .i64) .nil))) (.cons (.recd (.cons (.int .i64) (.cons (.int .i64) .nil))) (.cons (.int .i64) .nil)))) (.cons .bool .nil))))) l,.agg [.int .i64 t,.int .i64 n,.int .i64 x,.int .i64 y,.int .i64 u,.int .i64 v,.int .i64 s,.ro (.recd (.cons (.int .i64) (.cons (.int .i64) (.cons (.int .i64) .nil)))) b,.int .i64 p,.int .i64 q],.int .i64 el,.int .i64 m]=>bif enV cx cy sd w h pb po fl ke sw be we el l t n x y u v s b p q m then k (.ret (.tup [.ro (.recd (.cons (.int .i64) (.cons (.int .i64) (.cons (.recd (.cons (.recd (.cons (.int .i64) (.cons (.int .i64) .nil))) (.cons (.recd (.cons (.int .i64) (.cons (.int .i64) .nil))) (.cons (.int .i64) .nil)))) (.cons .bool .nil))))) (enW cx cy sd w h pb po fl ke sw be we el l t n x y u v s b p q m),.int .i64 (enE cx cy sd w h pb po fl ke sw be we el l t n x y u v s b p q m)])) else k (.ret (.tup [.nils,.int .i64 2]))
 |_=>none
theorem Gb:FspOk Tryz.prog 10 qs:=aq qq lT ⟨Tryz.func10,fun _ _=>by kernel_rfl⟩ (by intro α args k; unfold qs; split<;>simp only[ak,Option.bind_some,Option.bind_none]) fun args out hSm hEq=>by
 unfold qs at hEq
 split at hEq
 ·rename_i cx cy sd w h pb po fl ke sw be we l t n x y u v s b p q el m
  refine⟨1,14,(Ga 1 0 AOut cx cy sd w h pb po fl ke sw be we el l t n x y u v s b p q m some).trans (Eq.trans ?_ hEq)⟩
  unfold enW enJ enV
  cases nl cx cy sd w h pb po fl ke sw be we el l (ccB t n x y u v s b p q)
  ·rfl
  ·cases decide (0≤m)
   ·rfl
   ·cases decide (m≤48)
    ·rfl
    ·cases h0:enE cx cy sd w h pb po fl ke sw be we el l t n x y u v s b p q m==0
     ·simp only[Bool.not_true,cond_false,cond_true,Bool.and_self,h0]
     ·simp only[Bool.not_true,cond_false,cond_true,Bool.and_self,h0]
      rw[show enE cx cy sd w h pb po fl ke sw be we el l t n x y u v s b p q m=0 from eq_of_beq h0]
 ·cases hEq
noncomputable def yn:Fsp:=fun _ args k=>match args with
 | [.agg [.int .i64 cx,.int .i64 cy,.int .i64 sd,.int .i64 w,.int .i64 h,.ro (.int .i64) pb,.ro (.int .i64) po],.agg [.int .i64 fl,.int .i64 ke,.int .i64 sw,.int .i64 be,.int .i64 we],.ro (.recd (.cons (.int .i64) (.cons (.int .i64) (.cons (.recd (.cons (.recd (.cons (.int .i64) (.cons (.int .i64) .nil))) (.cons (.recd (.cons (.int .i64) (.cons (.int .i64) .nil))) (.cons (.int .i64) .nil)))) (.cons .bool .nil))))) l,.agg [.int .i64 t,.int .i64 n,.int .i64 x,.int .i64 y,.int .i64 u,.int .i64 v,.int .i64 s,.ro (.recd (.cons (.int .i64) (.cons (.int .i64) (.cons (.int .i64) .nil)))) b,.int .i64 p,.int .i64 q],.int .i64 el,.int .i64 m]=>k (.ret (.tup [.ro (.recd (.cons (.int .i64) (.cons (.int .i64) (.cons (.recd (.cons (.recd (.cons (.int .i64) (.cons (.int .i64) .nil))) (.cons (.recd (.cons (.int .i64) (.cons (.int .i64) .nil))) (.cons (.int .i64) .nil)))) (.cons .bool .nil))))) (enW cx cy sd w h pb po fl ke sw be we el l t n x y u v s b p q m),.int .i64 (enJ cx cy sd w h pb po fl ke sw be we el l t n x y u v s b p q m)]))
 |_=>none
theorem yo:FspOk Tryz.prog 10 yn:=wS Gb (by intro α args k; unfold yn; split<;>rfl) fun args out hq=>by
 unfold yn at hq
 split at hq
 ·rename_i cx cy sd w h pb po fl ke sw be we l t n x y u v s b p q el m
  cases hq
  cases h0:enV cx cy sd w h pb po fl ke sw be we el l t n x y u v s b p q m
  ·refine⟨.tup [.nils,.int .i64 2],_,rfl,?_,?_⟩
   ·unfold qs; simp only[h0,cond_false]
   ·have e1:enJ cx cy sd w h pb po fl ke sw be we el l t n x y u v s b p q m=2:=by unfold enJ; rw[h0]; rfl
    have e2:enW cx cy sd w h pb po fl ke sw be we el l t n x y u v s b p q m=[]:=by unfold enW; rw[e1]; rfl
    rw[e1,e2]
    exact sD ⟨nV _,jX.refl _,trivial⟩
  ·refine⟨_,_,rfl,?_,jX.refl _⟩
   have e1:enJ cx cy sd w h pb po fl ke sw be we el l t n x y u v s b p q m=enE cx cy sd w h pb po fl ke sw be we el l t n x y u v s b p q m:=by unfold enJ; rw[h0]; rfl
   unfold qs; simp only[h0,cond_true,e1]
 ·cases hq
/-! Points. -/
noncomputable def kqS (L:List BdI):List ScI:=scR (iE (bz L) (dI L)) (exL (iE (bz L) (dI L)))
def sgT (tm:Int) (p:ScI):Int:=bif p.1==IntKind.i64.wrap (1-tm) then IntKind.i64.wrap (0-p.2.1) else p.2.1
def kpF {α:Type} (Q:List ScI) (tm:Int) (x:List Int × Int × Unit):Option (LRes (List Int × Int × Unit) α):=
 bif decide (x.2.1<(Q.length:Int)) then
  if 0≤x.2.1∧x.2.1<(Q.length:Int) then
   bif (Q.getD x.2.1.toNat (0,0,())).1==IntKind.i64.wrap (1-tm) then
    if (x.1.length+[IntKind.i64.wrap (0-(Q.getD x.2.1.toNat (0,0,())).2.1)].length)*8≤room then some (.cont (x.1++[IntKind.i64.wrap (0-(Q.getD x.2.1.toNat (0,0,())).2.1)],IntKind.i64.wrap (x.2.1+1),())) else none
   else
    if (x.1.length+[(Q.getD x.2.1.toNat (0,0,())).2.1].length)*8≤room then some (.cont (x.1++[(Q.getD x.2.1.toNat (0,0,())).2.1],IntKind.i64.wrap (x.2.1+1),())) else none
  else none
 else some (.brk 0 (x.1,x.2.1,()))
def kmF {α:Type} (op:Int→Int→Int) (V:List Int) (x:Int × Int × Unit):Option (LRes (Int × Int × Unit) α):=
 bif decide (x.2.1<(V.length:Int)) then
  if 0≤x.2.1∧x.2.1<(V.length:Int) then some (.cont (op x.1 (V.getD x.2.1.toNat 0),IntKind.i64.wrap (x.2.1+1),())) else none
 else some (.brk 0 (x.1,x.2.1,()))
def kmX (a b:Int):Int:=if a<b then b else a
def kmN (a b:Int):Int:=if b<a then b else a
def kpK {α:Type} (N:Nat) (V:List Int) (k:AOut→Option α):Option α:=
 bif decide ((V.length:Int)<1) then k (.pan (.ifc 9 (.str { data:=#[115,108,105,99,101,115,46,77,105,110,58,32,101,109,112,116,121,32,108,105,115,116] }))) else
  if 0≤(0:Int)∧0<(V.length:Int) then
   ag (af N (kmF kmN V) (V.getD (Int.toNat 0) 0,1,())) fun id y=>if id=0 then
    bif decide ((V.length:Int)<1) then k (.pan (.ifc 9 (.str { data:=#[115,108,105,99,101,115,46,77,97,120,58,32,101,109,112,116,121,32,108,105,115,116] }))) else
     if 0≤(0:Int)∧0<(V.length:Int) then
      ag (af N (kmF kmX V) (V.getD (Int.toNat 0) 0,1,())) fun id z=>if id=0 then k (.ret (.tup [.int .i64 y.1,.int .i64 z.1])) else none
     else none
   else none
  else none
set_option maxRecDepth 100000 in
theorem Gc (N n0:Nat) (α:Type) (cx cy sd w h:Int) (pb po:List Int) (fl ke sw be we:Int) (el:Int) (l:List BdI) (t n x y u v s:Int) (b:List BrI) (p q:Int) (m:Int) (tm:Int) (k:AOut→Option α):am real tab ((twY DW FL).env real tab N (n0+14)) N Tryz.f37 α [.agg [.int .i64 cx,.int .i64 cy,.int .i64 sd,.int .i64 w,.int .i64 h,.ro (.int .i64) pb,.ro (.int .i64) po,.int .i64 fl,.int .i64 ke,.int .i64 sw,.int .i64 be,.int .i64 we,.int .i64 el,.ro (.recd (.cons (.int .i64) (.cons (.int .i64) (.cons (.recd (.cons (.recd (.cons (.int .i64) (.cons (.int .i64) .nil))) (.cons (.recd (.cons (.int .i64) (.cons (.int .i64) .nil))) (.cons (.int .i64) .nil)))) (.cons .bool .nil))))) l],.agg [.int .i64 t,.int .i64 n,.int .i64 x,.int .i64 y,.int .i64 u,.int .i64 v,.int .i64 s,.ro (.recd (.cons (.int .i64) (.cons (.int .i64) (.cons (.int .i64) .nil)))) b,.int .i64 p,.int .i64 q],.int .i64 m,.int .i64 tm] k =
 bif enE cx cy sd w h pb po fl ke sw be we el l t n x y u v s b p q m==0 then ag (af N (kpF (kqS (enR cx cy sd w h pb po fl ke sw be we el l t n x y u v s b p q m)) tm) ([],
 0,())) fun id y=>if id=0 then kpK N y.1 k else none else k (ktmis (enE cx cy sd w h pb po fl ke sw be we el l t n x y u v s b p q m)):=by kernel_rfl
/-! Stones of a scene. -/
theorem JZ {l:List BdI} (h:bz l=true):eG (dI l)=true:=by
 obtain⟨h16,hb⟩:=o3.1 h
 have hlen:(dI l).length≤16:=by
  unfold dI
  rw[List.length_map]
  exact Nat.le_trans (List.length_filter_le _ _) h16
 have pw:l.Pairwise fun x y=>¬(x.1=y.1∧x.2.1=y.2.1):=by
  rw[List.pairwise_iff_getElem]
  intro i j hi hj hij
  have e:∀k (hk:k<l.length),l.getD k bdD=l[k]:=fun k hk=>by rw[List.getD_eq_getElem?_getD,List.getElem?_eq_getElem hk]; rfl
  have:=(hb j hj).2.2 i hij
  rwa [e i hi,e j hj] at this
 have pw2:(dI l).Pairwise fun x y=>¬(x.1=y.1∧x.2.1=y.2.1):=by
  unfold dI
  rw[List.pairwise_map]
  exact (pw.filter _).imp fun h=>h
 unfold eG
 rw[decide_eq_true hlen,Bool.true_and,Bool.not_eq_true',List.any_eq_false]
 intro i hi
 have hi:=List.mem_range.1 hi
 have e:∀k (hk:k<(dI l).length),(dI l).getD k snD=(dI l)[k]:=fun k hk=>by rw[List.getD_eq_getElem?_getD,List.getElem?_eq_getElem hk]; rfl
 unfold p9
 simp only[Bool.or_eq_true,Bool.not_eq_true',not_or,Bool.not_eq_false,List.any_eq_true,not_exists,not_and,Bool.not_eq_true]
 constructor
 ·rw[e i hi]
  have hm:(dI l)[i]∈dI l:=List.getElem_mem _
  unfold dI at hm
  obtain⟨b,hb',eb⟩:=List.mem_map.1 hm
  have hbl:b∈l:=(List.mem_filter.1 hb').1
  have eb':(dI l)[i]=AG b:=eb.symm
  rw[eb']
  obtain⟨c1,c2,c3,c4,_⟩:=kH (E9 h b hbl).1
  unfold snV AG SnI.x SnI.y
  simp only[Bool.and_eq_true,decide_eq_true_eq]
  refine⟨⟨?_,?_⟩,⟨?_,?_⟩,⟨?_,?_⟩,?_,?_⟩<;>omega
 ·intro k hk
  have hk:=List.mem_range.1 hk
  rw[e i hi,e k (by omega)]
  have:=(List.pairwise_iff_getElem.1 pw2) k i (by omega) hi hk
  unfold snN
  rw[Bool.and_eq_false_iff,beq_eq_false_iff_ne,beq_eq_false_iff_ne]
  omega
def kfN (op:Int→Int→Int) (V:List Int):Nat→Int
 |0=>V.getD 0 0
 |i+1=>op (kfN op V i) (V.getD (i+1) 0)
def kfL (op:Int→Int→Int) (V:List Int):Int:=kfN op V (V.length-1)
noncomputable def kpV (tm:Int) (L:List BdI):List Int:=(kqS L).map (sgT tm)
theorem DX (L:List BdI):(kqS L).length≤33:=NL _
theorem NO {L:List BdI} (h:bz L=true):0<(kqS L).length:=by
 unfold kqS iE
 rw[h]
 exact NK (JZ h)
theorem NP {α:Type} {Q:List ScI} (hQ:Q.length≤33) (tm:Int) (K:Nat→List Int × Int × Unit→Option α):ag (af 40 (kpF Q tm) ([],0,())) K=K 0 (Q.map (sgT tm),(Q.length:Int),()):=by
 have hroom:room≥10000:=by decide
 have hm:maxLen=9223372036854775807:=rfl
 have e:Q.map (sgT tm)=fmL (fun _=>true) (sgT tm) (0,0,()) Q Q.length:=by rw[mU,List.filter_eq_self.2 fun _ _=>rfl]
 rw[e]
 refine aB (f:=kpF Q tm) (fun i:Nat=>(fmL (fun _=>true) (sgT tm) (0,0,()) Q i,(i:Int),())) Q.length (fun i hi=>?_) ?_ (by omega)
 ·have hl:=kG (fun _=>true) (sgT tm) (0,0,()) Q i
  unfold kpF
  simp only[aR hi,cond_true,aH hi,if_pos,and_self,Int.toNat_natCast,ao hi (by omega),List.length_singleton,fmL]
  rw[if_pos (by omega),if_pos (by omega)]
  unfold sgT
  cases (Q.getD i (0,0,())).1==IntKind.i64.wrap (1-tm)<;>rfl
 ·unfold kpF
  simp only[ap,cond_false]
theorem DY {α:Type} {V:List Int} (h0:0<V.length) (hV:V.length≤33) (op:Int→Int→Int) (K:Nat→Int × Int × Unit→Option α):ag (af 40 (kmF op V) (V.getD (Int.toNat 0) 0,1,())) K=K 0 (kfL op V,(V.length:Int),()):=by
 have hm:maxLen=9223372036854775807:=rfl
 refine aB (f:=kmF op V) (fun i:Nat=>(kfN op V i,((i+1:Nat):Int),())) (V.length-1) (fun i hi=>?_) ?_ (by omega)
 ·unfold kmF
  simp only[aR (show i+1<V.length by omega),cond_true,aH (show i+1<V.length by omega),if_pos,and_self,Int.toNat_natCast,ao (show i+1<V.length by omega) (by omega),kfN,decide_true,cond_true]
 ·unfold kmF
  have e:((V.length-1+1:Nat):Int)=(V.length:Int):=by omega
  simp only[e,decide_eq_false (show ¬(V.length:Int)<(V.length:Int) by omega),cond_false]
  rfl
theorem Q9 {α:Type} {V:List Int} (h0:0<V.length) (hV:V.length≤33) (k:AOut→Option α):kpK 40 V k=k (.ret (.tup [.int .i64 (kfL kmN V),.int .i64 (kfL kmX V)])):=by
 unfold kpK
 rw[decide_eq_false (show ¬(V.length:Int)<1 by omega),cond_false,if_pos ⟨by omega,by omega⟩,DY h0 hV,if_pos rfl,cond_false,if_pos ⟨by omega,by omega⟩,DY h0 hV,if_pos rfl]
theorem en4 (a b d:Bool) (z:Int) (h:(bif a then bif b then bif z==0 then bif d then 0 else 9 else z else 4 else 9)=(0:Int)):a=true∧b=true∧z=0∧d=true:=by
 cases a
 ·exact absurd (show (9:Int)=0 from h) (by decide)
 cases b
 ·exact absurd (show (4:Int)=0 from h) (by decide)
 simp only[cond_true] at h
 cases hz:z==0
 ·rw[hz,cond_false] at h
  rw[h] at hz; cases hz
 rw[hz,cond_true] at h
 cases d
 ·exact absurd (show (9:Int)=0 from h) (by decide)
 exact⟨rfl,rfl,eq_of_beq hz,rfl⟩
theorem J0 {cx cy sd w h:Int} {pb po:List Int} {fl ke sw be we:Int} {el:Int} {l:List BdI} {t n x y u v s:Int} {b:List BrI} {p q:Int} {m:Int} (hE:enE cx cy sd w h pb po fl ke sw be we el l t n x y u v s b p q m=0):bz (enR cx cy sd w h pb po fl ke sw be we el l t n x y u v s b p q m)=true∧(enR cx cy sd w h pb po fl ke sw be we el l t n x y u v s b p q m).any mvg=false∧pX (enC cx cy sd w h pb po fl ke sw be we el l t n x y u v s b p q m) (enO cx cy sd w h pb po fl ke sw be we el l t n x y u v s b p q m)=0∧enB l t n=true∧dw [thB t n x y u v s p q m]=0:=by
 obtain⟨h1,h2,h3,h4⟩:=en4 _ _ _ _ hE
 rw[Bool.and_eq_true,Bool.not_eq_true'] at h4
 exact⟨h4.1,h4.2,h3,h1,eq_of_beq h2⟩
noncomputable def NQ:Fsp:=fun _ args k=>match args with
 | [.agg [.int .i64 cx,.int .i64 cy,.int .i64 sd,.int .i64 w,.int .i64 h,.ro (.int .i64) pb,.ro (.int .i64) po,.int .i64 fl,.int .i64 ke,.int .i64 sw,.int .i64 be,.int .i64 we,.int .i64 el,.ro (.recd (.cons (.int .i64) (.cons (.int .i64) (.cons (.recd (.cons (.recd (.cons (.int .i64) (.cons (.int .i64) .nil))) (.cons (.recd (.cons (.int .i64) (.cons (.int .i64) .nil))) (.cons (.int .i64) .nil)))) (.cons .bool .nil))))) l],.agg [.int .i64 t,.int .i64 n,.int .i64 x,.int .i64 y,.int .i64 u,.int .i64 v,.int .i64 s,.ro (.recd (.cons (.int .i64) (.cons (.int .i64) (.cons (.int .i64) .nil)))) b,.int .i64 p,.int .i64 q],.int .i64 m,.int .i64 tm]=>bif enE cx cy sd w h pb po fl ke sw be we el l t n x y u v s b p q m==0 then k (.ret (.tup [.int .i64 (kfL kmN (kpV tm (enR cx cy sd w h pb po fl ke sw be we el l t n x y u v s b p q m))),.int .i64 (kfL kmX (kpV tm (enR cx cy sd w h pb po fl ke sw be we el l t n x y u v s b p q m)))])) else k (ktmis (enE cx cy sd w h pb po fl ke sw be we el l t n x y u v s b p q m))
 |_=>none
theorem NR:FspOk Tryz.prog 37 NQ:=aq qq lT ⟨Tryz.func37,fun _ _=>by kernel_rfl⟩ (by intro α args k; unfold NQ; split<;>simp only[ak,Option.bind_some,Option.bind_none]) fun args out hSm hEq=>by
 unfold NQ at hEq
 split at hEq
 ·rename_i cx cy sd w h pb po fl ke sw be we el l t n x y u v s b p q m tm
  refine⟨40,14,(Gc 40 0 AOut cx cy sd w h pb po fl ke sw be we el l t n x y u v s b p q m tm some).trans (Eq.trans ?_ hEq)⟩
  cases h0:enE cx cy sd w h pb po fl ke sw be we el l t n x y u v s b p q m==0
  ·rfl
  ·rw[cond_true,cond_true]
   have h1:=(J0 (eq_of_beq h0)).1
   rw[NP (DX _),if_pos rfl]
   exact Q9 (by rw[List.length_map]; exact NO h1) (by rw[List.length_map]; exact DX _) some
 ·cases hEq
noncomputable def J1:FuncId→Option Fsp:=fun g=>
 if g=37 then some NQ else
 if g=10 then some yn else
 DW g
theorem yp:aD J1:=
 ae NR <|
 ae yo <|
 qq
noncomputable def epV (cx cy sd w h:Int) (pb po:List Int) (fl ke sw be we:Int) (el:Int) (l:List BdI) (t n x y u v s:Int) (b:List BrI) (p q:Int) (m:Int) (tm:Int):Bool:=enV cx cy sd w h pb po fl ke sw be we el l t n x y u v s b p q m&&(decide (0≤tm)&&decide (tm≤1))
noncomputable def epE (cx cy sd w h:Int) (pb po:List Int) (fl ke sw be we:Int) (el:Int) (l:List BdI) (t n x y u v s:Int) (b:List BrI) (p q:Int) (m:Int) (tm:Int):Int:=bif epV cx cy sd w h pb po fl ke sw be we el l t n x y u v s b p q m tm then enE cx cy sd w h pb po fl ke sw be we el l t n x y u v s b p q m else 2
noncomputable def epP (op:Int→Int→Int) (cx cy sd w h:Int) (pb po:List Int) (fl ke sw be we:Int) (el:Int) (l:List BdI) (t n x y u v s:Int) (b:List BrI) (p q:Int) (m:Int) (tm:Int):Int:=bif epE cx cy sd w h pb po fl ke sw be we el l t n x y u v s b p q m tm==0 then kfL op (kpV tm (enR cx cy sd w h pb po fl ke sw be we el l t n x y u v s b p q m)) else 0
theorem Gd (N n0:Nat) (α:Type) (cx cy sd w h:Int) (pb po:List Int) (fl ke sw be we:Int) (el:Int) (l:List BdI) (t n x y u v s:Int) (b:List BrI) (p q:Int) (m:Int) (tm:Int) (k:AOut→Option α):am real tab ((twY J1 FL).env real tab N (n0+14)) N Tryz.f9 α [.agg [.int .i64 cx,.int .i64 cy,.int .i64 sd,.int .i64 w,.int .i64 h,.ro (.int .i64) pb,.ro (.int .i64) po],.agg [.int .i64 fl,.int .i64 ke,.int .i64 sw,.int .i64 be,.int .i64 we],.ro (.recd (.cons (.int .i64) (.cons (.int .i64) (.cons (.recd (.cons (.recd (.cons (.int .i64) (.cons (.int .i64) .nil))) (.cons (.recd (.cons (.int .i64) (.cons (.int .i64) .nil))) (.cons (.int .i64) .nil)))) (.cons .bool .nil))))) l,.agg [.int .i64 t,.int .i64 n,.int .i64 x,.int .i64 y,.int .i64 u,.int .i64 v,.int .i64 s,.ro (.recd (.cons (.int .i64) (.cons (.int .i64) (.cons (.int .i64) .nil)))) b,.int .i64 p,.int .i64 q],.int .i64 el,.int .i64 m,.int .i64 tm] k =
 bif !nl cx cy sd w h pb po fl ke sw be we el l (ccB t n x y u v s b p q) then k (.ret (.tup [.int .i64 0,.int .i64 0,.int .i64 2])) else bif decide (0≤m) then bif !decide (m ≤
 48) then k (.ret (.tup [.int .i64 0,.int .i64 0,.int .i64 2])) else bif decide (0≤tm) then bif !decide (tm≤1) then k (.ret (.tup [.int .i64 0,.int .i64 0,.int .i64 2])) else
 bif enE cx cy sd w h pb po fl ke sw be we el l t n x y u v s b p q m==0 then k (.ret (.tup [.int .i64 (kfL kmN (kpV tm (enR cx cy sd w h pb po fl ke sw be we el l t n x y u v s b
 p q m))),.int .i64 (kfL kmX (kpV tm (enR cx cy sd w h pb po fl ke sw be we el l t n x y u v s b p q m))),.int .i64 0])) else k (.ret (.tup [.int .i64 0,.int .i64 0,.int .i64
 (enE cx cy sd w h pb po fl ke sw be we el l t n x y u v s b p q m)])) else k (.ret (.tup [.int .i64 0,.int .i64 0,.int .i64 2])) else k (.ret (.tup [.int .i64 0,.int .i64 0,.int
 .i64 2])):=by kernel_rfl
noncomputable def yq:Fsp:=fun _ args k=>match args with
 | [.agg [.int .i64 cx,.int .i64 cy,.int .i64 sd,.int .i64 w,.int .i64 h,.ro (.int .i64) pb,.ro (.int .i64) po],.agg [.int .i64 fl,.int .i64 ke,.int .i64 sw,.int .i64 be,.int .i64 we],.ro (.recd (.cons (.int .i64) (.cons (.int .i64) (.cons (.recd (.cons (.recd (.cons (.int .i64) (.cons (.int .i64) .nil))) (.cons (.recd (.cons (.int .i64) (.cons (.int .i64) .nil))) (.cons (.int .i64) .nil)))) (.cons .bool .nil))))) l,.agg [.int .i64 t,.int .i64 n,.int .i64 x,.int .i64 y,.int .i64 u,.int .i64 v,.int .i64 s,.ro (.recd (.cons (.int .i64) (.cons (.int .i64) (.cons (.int .i64) .nil)))) b,.int .i64 p,.int .i64 q],.int .i64 el,.int .i64 m,.int .i64 tm]=>k (.ret (.tup [.int .i64 (epP kmN cx cy sd w h pb po fl ke sw be we el l t n x y u v s b p q m tm),.int .i64 (epP kmX cx cy sd w h pb po fl ke sw be we el l t n x y u v s b p q m tm),.int .i64 (epE cx cy sd w h pb po fl ke sw be we el l t n x y u v s b p q m tm)]))
 |_=>none
theorem yr:FspOk Tryz.prog 9 yq:=aq yp lT ⟨Tryz.func9,fun _ _=>by kernel_rfl⟩ (by intro α args k; unfold yq; split<;>rfl) fun args out hSm hEq=>by
 unfold yq at hEq
 split at hEq
 ·rename_i cx cy sd w h pb po fl ke sw be we l t n x y u v s b p q el m tm
  refine⟨1,14,(Gd 1 0 AOut cx cy sd w h pb po fl ke sw be we el l t n x y u v s b p q m tm some).trans (Eq.trans ?_ hEq)⟩
  unfold epP epE epV enV
  cases nl cx cy sd w h pb po fl ke sw be we el l (ccB t n x y u v s b p q)
  ·rfl
  ·cases decide (0≤m)
   ·rfl
   ·cases decide (m≤48)
    ·rfl
    ·cases decide (0≤tm)
     ·rfl
     ·cases decide (tm≤1)
      ·rfl
      ·cases h0:enE cx cy sd w h pb po fl ke sw be we el l t n x y u v s b p q m==0
       ·simp only[Bool.not_true,cond_false,cond_true,Bool.and_self,h0]
       ·simp only[Bool.not_true,cond_false,cond_true,Bool.and_self,h0]
        rw[show enE cx cy sd w h pb po fl ke sw be we el l t n x y u v s b p q m=0 from eq_of_beq h0]
 ·cases hEq
/-! Throw. -/
end Go.Proofs.YtpgfncncgjihpaaGreat
