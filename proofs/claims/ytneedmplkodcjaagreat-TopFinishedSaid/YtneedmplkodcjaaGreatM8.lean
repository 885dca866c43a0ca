/- Parts of the proof, in build order. -/
import Derived.Test.YtneedmplkodcjaaGreatM7
import Derived.Test.YtneedmplkodcjaaGreatM6
namespace Go.Proofs.YtneedmplkodcjaaGreat
open Go.RowKit
theorem suW_in {c:List Int} (h:cntW c=true):∀i,i≤c.length→0≤suW c i∧suW c i≤1000000*(i:Int):=by
 have hc:∀i,i<c.length→0≤c.getD i 0∧c.getD i 0≤1000000:=fun i hi=>by
  unfold cntW at h
  simp only[Bool.and_eq_true,Bool.not_eq_true',List.any_eq_false] at h
  have:=h.2.2 i (List.mem_range.2 hi)
  unfold cnO at this
  simpa using this
 have hl:c.length≤49:=by
  unfold cntW at h
  simp only[Bool.and_eq_true,decide_eq_true_eq] at h
  exact h.2.1
 intro i
 induction i with
 |zero=>intro _; exact⟨Int.le_refl _,Int.le_refl _⟩
 |succ i ih=>
  intro hi
  have:=ih (by omega)
  have:=hc i (by omega)
  have e:suW c (i+1)=suW c i+c.getD i 0:=by
   show IntKind.i64.wrap (suW c i+c.getD i 0)=_
   rw[IntKind.wrap_i64]; omega
  rw[e]
  omega
theorem cntW_len {c:List Int} (h:cntW c=true):1≤c.length∧c.length≤49:=by
 unfold cntW at h
 simp only[Bool.and_eq_true,decide_eq_true_eq] at h
 exact⟨h.1,h.2.1⟩
theorem meN_in {c:List Int} (h:cntW c=true) {d:Int} (hd:1≤d∧d≤1000):meN c d=suW c c.length+d∧1≤meN c d:=by
 have hl:=cntW_len h
 have hs:=suW_in h c.length (Nat.le_refl _)
 unfold meN
 rw[IntKind.wrap_i64]
 omega
theorem meB_of {c v:List Int} (h:cntW c=true) (hl:v.length=c.length) {d:Int} (hd:1≤d∧d≤1000):meB c v d=true:=by
 have h1:=cntW_len h
 have h2:=meN_in h hd
 unfold meB
 rw[decide_eq_true (show 1≤v.length by omega),decide_eq_true (show c.length≤v.length by omega),show (meN c d==0)=false from beq_eq_false_iff_ne.2 (by omega)]
 rfl
def vaO (n:Int):Bool:=decide (-68719476736≤n)&&decide (n≤68719476736)
def mnB (c v:List Int) (d:Int):Bool:=cntW c&&(decide (v.length=c.length)&&(!((List.range v.length).any fun i=>!vaO (v.getD i 0))&&(decide (1≤d)&&decide (d≤1000))))
def mnO (c v:List Int) (d:Int):AOut:=.ret (.tup [.int .i64 (bif mnB c v d then meW mnI 1 c v d else 0),.int .i64 (bif mnB c v d then meW mxI 2 c v d else 0),.int .i64 (bif mnB c v d then 0 else 2)])
def mnX:AOut:=.ret (.tup [.int .i64 0,.int .i64 0,.int .i64 2])
def mnZ {α:Type} (c v:List Int) (d:Int) (k:AOut→Option α):Option α:=
 bif decide (1≤d) then bif !decide (d≤1000) then k mnX else bif meB c v d then bif meB c v d then k (.ret (.tup [.int .i64 (meW mnI 1 c v d),.int .i64 (meW mxI 2 c v d),.int .i64 0])) else none else none else k mnX
def vaF {α:Type} (c v:List Int) (d:Int) (k:AOut→Option α) (x:Int × Unit):Option (LRes (Int × Unit) α):=
 bif decide (x.1<(v.length:Int)) then
  if 0≤x.1∧x.1<(v.length:Int) then
   bif decide (-68719476736≤v.getD x.1.toNat 0) then bif !decide (v.getD x.1.toNat 0≤68719476736) then finL (bif decide (x.1≥0) then k mnX else mnZ c v d k) else some (.cont (IntKind.i64.wrap (x.1+1),()))
   else finL (bif decide (x.1≥0) then k mnX else mnZ c v d k)
  else none
 else some (.brk 0 (x.1,()))
theorem sMn_text (N n0:Nat) (α:Type) (c v:List Int) (d:Int) (k:AOut→Option α):evFn real tab ((twY fsK2 spC).env real tab N (n0+12)) N Tryz.f105 α [.ro (.int .i64) c,.ro (.int .i64) v,.int .i64 d] k =
 bif !cntW c then k mnX else bif (v.length:Int) != (c.length:Int) then k mnX else afterL (iterL N (vaF c v d k) (0,())) fun id _=>if id=0 then mnZ c v d k else none:=by
 kernel_rfl
theorem sMn_plain {α:Type} (c v:List Int) (d:Int) (k:AOut→Option α):(bif !cntW c then k mnX else bif (v.length:Int) != (c.length:Int) then k mnX else
 afterL (iterL 60 (vaF c v d k) (0,())) fun id _=>if id=0 then mnZ c v d k else none)=k (mnO c v d):=by
 unfold mnO mnB
 cases hc:cntW c
 ·rfl
 by_cases hl:v.length=c.length
 case neg=>rw[decide_eq_false hl,show ((v.length:Int) != (c.length:Int))=true from bne_iff_ne.2 (by omega)]; rfl
 rw[decide_eq_true hl,show ((v.length:Int) != (c.length:Int))=false by rw[hl]; simp,Bool.not_true,cond_false,cond_false,Bool.true_and,Bool.true_and]
 have h49:=cntW_len hc
 have hmx:v.length≤maxLen:=by have:maxLen=9223372036854775807:=rfl; omega
 refine (any_loop' (f:=vaF c v d k) (fun i:Nat=>((i:Int),())) v.length (fun i=>!vaO (v.getD i 0)) (k mnX) (fun i hi=>?_) (y:=((v.length:Int),())) (b:=0) ?_ (by omega)).trans ?_
 ·unfold vaF vaO
  simp only[lt_len hi,cond_true,in_len hi,if_pos,and_self,decide_true,Int.toNat_natCast,wrap_next hi hmx]
  cases decide (-68719476736≤v.getD i 0)<;>cases decide (v.getD i 0≤68719476736)<;>rfl
 ·unfold vaF
  simp only[not_lt_len,cond_false]
 ·rw[if_pos rfl]
  cases (List.range v.length).any fun i=>!vaO (v.getD i 0)
  case true=>rfl
  unfold mnZ
  by_cases h1:1≤d
  case neg=>rw[decide_eq_false h1]; rfl
  by_cases h2:d≤1000
  case neg=>rw[decide_eq_true h1,decide_eq_false h2]; rfl
  rw[decide_eq_true h1,decide_eq_true h2,meB_of hc hl ⟨h1,h2⟩]
  rfl
noncomputable def sMnS:Fsp:=fun _ args k=>match args with
 | [.ro (.int .i64) c,.ro (.int .i64) v,.int .i64 d]=>k (mnO c v d)
 |_=>none
theorem sMnS_ok:FspOk Tryz.prog 105 sMnS:=tower_Y fsK2_ok spC_ok ⟨Tryz.func105,fun _ _=>by kernel_rfl⟩ (by intro α args k; unfold sMnS; split<;>rfl) fun args out hSm hEq=>by
 unfold sMnS at hEq
 split at hEq
 ·rename_i c v d
  exact⟨60,12,((sMn_text 60 0 AOut c v d some).trans (sMn_plain c v d some)).trans hEq⟩
 ·cases hEq
/-! counted of skip. -/
def emF {α:Type} (x:Int × Unit):Option (LRes (Int × Unit) α):=bif decide (x.1<0) then none else some (.brk 0 (x.1,()))
def emG {α:Type} (x:Int × List Int × Unit):Option (LRes (Int × List Int × Unit) α):=bif decide (x.1<0) then none else some (.brk 0 (x.1,x.2.1,()))
theorem kcn_text (N n0:Nat) (α:Type) (c:List Int) (m:Int) (k:AOut→Option α):evFn real tab ((twY fsK2 spC).env real tab N (n0+12)) N Tryz.f69 α [.ro (.int .i64) c,.int .i64 m] k =
 bif !cntW c then k (b1 false) else afterL (iterL N emF (0,())) fun id _=>if id=0 then if 0≤(c.length:Int)∧(c.length:Int)≤(c.length:Int)∧(c.length:Int)*((8 :
 Nat):Int)≤((room:Nat):Int) then afterL (iterL N emG (0,List.replicate (c.length:Int).toNat 0,())) fun id _=>if id=0 then k (b1 ((c.length:Int)==m)) else none
 else none else none:=by kernel_rfl
noncomputable def kcnS:Fsp:=fun _ args k=>match args with
 | [.ro (.int .i64) c,.int .i64 m]=>k (b1 (cntW c&&((List.length (α:=Int) c:Int)==m)))
 |_=>none
theorem kcn_plain {α:Type} (c:List Int) (m:Int) (k:AOut→Option α):(bif !cntW c then k (b1 false) else
 afterL (iterL 5 emF (0,())) fun id _=>if id=0 then
  if 0≤(c.length:Int)∧(c.length:Int)≤(c.length:Int)∧(c.length:Int)*((8:Nat):Int)≤((room:Nat):Int) then
   afterL (iterL 5 emG (0,List.replicate (c.length:Int).toNat 0,())) fun id _=>if id=0 then k (b1 ((c.length:Int)==m)) else none
  else none
 else none)=k (b1 (cntW c&&((c.length:Int)==m))):=by
 cases hc:cntW c
 ·rfl
 have h49:=cntW_len hc
 have hr:room≥10000:=by decide
 rw[Bool.not_true,cond_false,Bool.true_and]
 show (if 0≤(c.length:Int)∧(c.length:Int)≤(c.length:Int)∧(c.length:Int)*((8:Nat):Int)≤((room:Nat):Int) then _ else none)=_
 rw[if_pos ⟨by omega,by omega,by omega⟩]
 rfl
theorem kcnS_ok:FspOk Tryz.prog 69 kcnS:=tower_Y fsK2_ok spC_ok ⟨Tryz.func69,fun _ _=>by kernel_rfl⟩ (by intro α args k; unfold kcnS; split<;>rfl) fun args out hSm hEq=>by
 unfold kcnS at hEq
 split at hEq
 ·rename_i c m
  exact⟨5,12,((kcn_text 5 0 AOut c m some).trans (kcn_plain c m some)).trans hEq⟩
 ·cases hEq
noncomputable def fsK3:FuncId→Option Fsp:=fun g=>
 if g=105 then some sMnS else
 if g=69 then some kcnS else
 fsK2 g
theorem fsK3_ok:FsOk fsK3:=
 fs_cons sMnS_ok <|
 fs_cons kcnS_ok <|
 fsK2_ok
abbrev GsI:=Int × Int × Int × Unit
abbrev HpI:=Int × Int × Unit
abbrev MpI:=List (GsI × HpI)
abbrev MpSh:Sh:=.mp GsSh HpSh
abbrev RvI:=Int × List (List Int) × List (List Int)
abbrev LsSh:Sh:=.sl (.int .i64)
def hpH (wc wb:Bool) (r:RvI) (M:MpI):List ABlk:=[.box wc [.int .i64 r.1,.ro LsSh r.2.1,.ro LsSh r.2.2,.fn 36 [.op 3 0,.op 1 0]],.box wb [.op 0 0],.row true 89 MpSh M,.box true [.own 2]]
def hpAt (h:List ABlk) (a b:Nat):Option (RvI × MpI × Nat × Nat × Bool × Bool):=
 match h.getD a .dead,h.getD b .dead with
 |.box true [.own m],.box wb [.op c 0]=>
  match h.getD m .dead,h.getD c .dead with
  |.row true t (.mp (.recd (.cons (.int .i64) (.cons (.int .i64) (.cons (.int .i64) .nil)))) (.recd (.cons (.int .i64) (.cons (.int .i64) .nil)))) M,.box wc [.int .i64 d,.ro (.sl (.int .i64)) A,.ro (.sl (.int .i64)) B,.fn f [.op a' 0,.op b' 0]]=>
   if (t=89∧f=36∧a'=a∧b'=b∧(wb || !wc)=true)∧(c≠b∧c≠m∧c≠a∧b≠m∧b≠a∧m≠a) then some ((d,A,B),M,m,c,wc,wb) else none
  |_,_=>none
 |_,_=>none
def hpM (h:List ABlk) (a m:Nat) (M:MpI):List ABlk:=((h.set m .dead).set a (.box true [.own h.length]))++[.row true 89 MpSh M]
def hpX (D:RvI→GsI→MpI→Bool) (V:RvI→GsI→HpI) (W:RvI→GsI→MpI→MpI):Cv→Cv:=fun _ _ v args h k=>
 match v,args with
 |.fn f [.op a 0,.op b 0],[.agg [.int .i64 e,.int .i64 l,.int .i64 t]]=>
  if f=36 then
   match hpAt h a b with
   |some (r,M,m,_,_,_)=>bif D r (e,l,t,()) M then k .normal (hpA (V r (e,l,t,())).1 (V r (e,l,t,())).2.1) (hpM h a m (W r (e,l,t,()) M)) else none
   |none=>none
  else none
 |_,_=>none
noncomputable def spH (D:RvI→GsI→MpI→Bool) (V:RvI→GsI→HpI) (W:RvI→GsI→MpI→MpI):FuncId→Option (Cv→Cv):=fun g=>
 if g=36 then some (hpX D V W) else spC g
def hpσ (c b m a:Nat):Nat→Nat
 |0=>c
 |1=>b
 |2=>m
 |_=>a
theorem hp_box0 {σ:Nat→Nat} {I:Nat→Prop} {a b:Nat} {r:RvI} (h3:I 3) (h1:I 1) (e3:σ 3=a) (e1:σ 1=b) (j:Nat) (c' d':AVal) (hc:([.int .i64 r.1,.ro LsSh r.2.1,.ro LsSh r.2.2,.fn 36 [.op 3 0,.op 1 0]]:List AVal)[j]?=some c') (hd:([.int .i64 r.1,.ro LsSh r.2.1,.ro LsSh r.2.2,.fn 36 [.op a 0,.op b 0]]:List AVal)[j]?=some d'):Ren σ I c' d':=by
 subst e3; subst e1
 match j,hc,hd with
 |0,hc,hd=>cases hc; cases hd; exact .flat _ rfl
 |1,hc,hd=>cases hc; cases hd; exact .flat _ rfl
 |2,hc,hd=>cases hc; cases hd; exact .flat _ rfl
 |3,hc,hd=>
  cases hc; cases hd
  refine .fn _ _ _ rfl fun j c' d' hc hd=>?_
  match j,hc,hd with
  |0,hc,hd=>cases hc; cases hd; exact .op 3 0 h3
  |1,hc,hd=>cases hc; cases hd; exact .op 1 0 h1
  |j+2,hc,_=>simp at hc
 |j+4,hc,_=>simp at hc
theorem hp_box1 {σ:Nat→Nat} {I:Nat→Prop} {i c:Nat} (h0:I i) (e:σ i=c) (j:Nat) (c' d':AVal) (hc:([.op i 0]:List AVal)[j]?=some c') (hd:([.op c 0]:List AVal)[j]?=some d'):Ren σ I c' d':=by
 subst e
 match j,hc,hd with
 |0,hc,hd=>cases hc; cases hd; exact .op i 0 h0
 |j+1,hc,_=>simp at hc
theorem hp_box3 {σ:Nat→Nat} {I:Nat→Prop} {i c:Nat} (h0:I i) (e:σ i=c) (j:Nat) (c' d':AVal) (hc:([.own i]:List AVal)[j]?=some c') (hd:([.own c]:List AVal)[j]?=some d'):Ren σ I c' d':=by
 subst e
 match j,hc,hd with
 |0,hc,hd=>cases hc; cases hd; exact .own i h0
 |j+1,hc,_=>simp at hc
theorem hp_sub {h:List ABlk} {wc wb:Bool} {r:RvI} {M:MpI} {a b c m:Nat}
  (hne:c≠b∧c≠m∧c≠a∧b≠m∧b≠a∧m≠a)
  (h0:h[c]?=some (.box wc [.int .i64 r.1,.ro LsSh r.2.1,.ro LsSh r.2.2,.fn 36 [.op a 0,.op b 0]])) (h1:h[b]?=some (.box wb [.op c 0]))
  (h2:h[m]?=some (.row true 89 MpSh M)) (h3:h[a]?=some (.box true [.own m])):Sub (hpσ c b m a) (·<4) (hpH wc wb r M) h where
 inj:=fun i j hi hj e=>by
  obtain⟨n1,n2,n3,n4,n5,n6⟩:=hne
  match i,j,hi,hj with
  |0,0,_,_=>rfl
  |0,1,_,_=>exact absurd e n1
  |0,2,_,_=>exact absurd e n2
  |0,3,_,_=>exact absurd e n3
  |1,0,_,_=>exact absurd e.symm n1
  |1,1,_,_=>rfl
  |1,2,_,_=>exact absurd e n4
  |1,3,_,_=>exact absurd e n5
  |2,0,_,_=>exact absurd e.symm n2
  |2,1,_,_=>exact absurd e.symm n4
  |2,2,_,_=>rfl
  |2,3,_,_=>exact absurd e n6
  |3,0,_,_=>exact absurd e.symm n3
  |3,1,_,_=>exact absurd e.symm n5
  |3,2,_,_=>exact absurd e.symm n6
  |3,3,_,_=>rfl
  |i+4,_,hi,_=>exact absurd hi (by simp)
  |_,j+4,_,hj=>exact absurd hj (by simp)
 blk:=fun i hi=>by
  match i,hi with
  |0,_=>exact .inl ⟨wc,_,_,rfl,h0,rfl,hp_box0 (show 3<4 by omega) (show 1<4 by omega) rfl rfl⟩
  |1,_=>exact .inl ⟨wb,_,_,rfl,h1,rfl,hp_box1 (i:=0) (show 0<4 by omega) rfl⟩
  |2,_=>exact .inr ⟨true,89,MpSh,M,rfl,h2⟩
  |3,_=>exact .inl ⟨true,_,_,rfl,h3,rfl,hp_box3 (i:=2) (show 2<4 by omega) rfl⟩
  |i+4,hi=>exact absurd hi (by simp)
structure HpEnd (wc wb:Bool) (r:RvI) (M:MpI) (hs:List ABlk) (q:Nat):Prop where
 h0:hs[0]?=some (.box wc [.int .i64 r.1,.ro LsSh r.2.1,.ro LsSh r.2.2,.fn 36 [.op 3 0,.op 1 0]])
 h1:hs[1]?=some (.box wb [.op 0 0])
 h3:hs[3]?=some (.box true [.own q])
 hq:hs[q]?=some (.row true 89 MpSh M)
 n0:q≠0∧q≠1∧q≠3
def hpσ' (h:List ABlk) (c b m a q i:Nat):Nat:=if i=q then h.length else hpσ c b m a i
def hpJ (q i:Nat):Prop:=i=0∨i=1∨i=3∨i=q
theorem hp_sub' {h hs:List ABlk} {wc wb:Bool} {r:RvI} {M:MpI} {a b c m q:Nat}
  (hne:c≠b∧c≠m∧c≠a∧b≠m∧b≠a∧m≠a) (E:HpEnd wc wb r M hs q)
  (h0:h[c]?=some (.box wc [.int .i64 r.1,.ro LsSh r.2.1,.ro LsSh r.2.2,.fn 36 [.op a 0,.op b 0]])) (h1:h[b]?=some (.box wb [.op c 0]))
  (h2:m<h.length) (h3:a<h.length):Sub (hpσ' h c b m a q) (hpJ q) hs (hpM h a m M):=by
 obtain⟨n1,n2,n3,n4,n5,n6⟩:=hne
 obtain⟨e0,e1,e3,eq,q0,q1,q3⟩:=E
 have lc:c<h.length:=(List.getElem?_eq_some_iff.1 h0).1
 have lb:b<h.length:=(List.getElem?_eq_some_iff.1 h1).1
 have s0:hpσ' h c b m a q 0=c:=if_neg (Ne.symm q0)
 have s1:hpσ' h c b m a q 1=b:=if_neg (Ne.symm q1)
 have s3:hpσ' h c b m a q 3=a:=if_neg (Ne.symm q3)
 have sq:hpσ' h c b m a q q=h.length:=if_pos rfl
 have f0:(hpM h a m M)[c]?=some (.box wc [.int .i64 r.1,.ro LsSh r.2.1,.ro LsSh r.2.2,.fn 36 [.op a 0,.op b 0]]):=by
  unfold hpM
  rw[List.getElem?_append_left (by simp; exact lc),List.getElem?_set_ne (Ne.symm n3),List.getElem?_set_ne (Ne.symm n2)]; exact h0
 have f1:(hpM h a m M)[b]?=some (.box wb [.op c 0]):=by
  unfold hpM
  rw[List.getElem?_append_left (by simp; exact lb),List.getElem?_set_ne (Ne.symm n5),List.getElem?_set_ne (Ne.symm n4)]; exact h1
 have f3:(hpM h a m M)[a]?=some (.box true [.own h.length]):=by
  unfold hpM
  rw[List.getElem?_append_left (by simp; exact h3),List.getElem?_set,if_pos rfl,if_pos (by simp; exact h3)]
 have fq:(hpM h a m M)[h.length]?=some (.row true 89 MpSh M):=by
  unfold hpM
  rw[List.getElem?_append_right (by simp)]
  simp
 constructor
 ·intro i j hi hj e
  rcases hi with rfl|rfl|rfl|rfl<;>rcases hj with rfl|rfl|rfl|rfl<;>simp only[s0,s1,s3,sq] at e<;>first|rfl|(exfalso; omega)
 ·intro i hi
  have j1:hpJ q 1:=.inr (.inl rfl)
  have j3:hpJ q 3:=.inr (.inr (.inl rfl))
  rcases hi with rfl|rfl|rfl|rfl
  ·rw[←s0] at f0
   exact .inl ⟨wc,_,_,e0,f0,rfl,hp_box0 j3 j1 s3 s1⟩
  ·rw[←s1] at f1
   exact .inl ⟨wb,_,_,e1,f1,rfl,hp_box1 (i:=0) (.inl rfl) s0⟩
  ·have g3:(hpM h a m M)[hpσ' h c b m a q 3]?=some (.box true [.own h.length]):=by rw[s3]; exact f3
   exact .inl ⟨true,_,_,e3,g3,rfl,hp_box3 (i:=q) (.inr (.inr (.inr rfl))) sq⟩
  ·exact .inr ⟨true,89,MpSh,M,eq,by rw[sq]; exact fq⟩
theorem getD_box {h:List ABlk} {i:Nat} {b:ABlk} (hb:b≠.dead) (e:h.getD i .dead=b):h[i]?=some b:=by
 rw[List.getD_eq_getElem?_getD] at e
 cases hx:h[i]? with
 |none=>rw[hx] at e; exact absurd e.symm hb
 |some q=>rw[hx] at e; exact congrArg some e
theorem hpAt_some {h:List ABlk} {a b:Nat} {r:RvI} {M:MpI} {m c:Nat} {w wb:Bool} (e:hpAt h a b=some (r,M,m,c,w,wb)) :
  (wb || !w)=true∧(c≠b∧c≠m∧c≠a∧b≠m∧b≠a∧m≠a)∧h[c]?=some (.box w [.int .i64 r.1,.ro LsSh r.2.1,.ro LsSh r.2.2,.fn 36 [.op a 0,.op b 0]])∧h[b]?=some (.box wb [.op c 0])∧h[m]?=some (.row true 89 MpSh M)∧h[a]?=some (.box true [.own m]):=by
 unfold hpAt at e
 split at e
 ·rename_i m' wb' c' e1 e2
  split at e
  ·rename_i t M' wc' d A B f a' b' e3 e4
   split at e
   ·rename_i hh
    obtain⟨⟨rfl,rfl,rfl,rfl,hw⟩,hne⟩:=hh
    cases e
    exact⟨hw,hne,getD_box (by simp) e4,getD_box (by simp) e2,getD_box (by simp) e3,getD_box (by simp) e1⟩
   ·cases e
  ·cases e
 ·cases e
theorem hpX_at {D:RvI→GsI→MpI→Bool} {V:RvI→GsI→HpI} {W:RvI→GsI→MpI→MpI} {sp:FuncId→Option (Cv→Cv)} (hsp:SpOk sp)
  (step:∀(w wb:Bool) r s M,(wb || !w)=true→D r s M=true→∃N n hs q,evBody real tab ((twY fsK3 sp).env real tab N n) N Tryz.f36 [.agg [.int .i64 s.1,.int .i64 s.2.1,.int .i64 s.2.2.1],.op 3 0,.op 1 0] (hpH w wb r M) tripE=some (.normal,hpA (V r s).1 (V r s).2.1,hs)∧HpEnd w wb r (W r s M) hs q)
  (cv:Cv) (caps:List AVal):CvAt Tryz.prog (hpX D V W cv) (.fn 36 caps) where
 nat:=fun α args h k=>by
  unfold hpX
  split
  ·split
   ·split
    ·rw[cond_bind]; rfl
    ·rfl
   ·rfl
  ·rfl
 ok:=fun args h x u h1 hk K g w fv cargs s hv hlen hargs=>by
  unfold hpX at hk
  split at hk
  case h_2=>cases hk
  rename_i f a b e l t hcaps
  split at hk
  case isFalse=>cases hk
  split at hk
  case h_2=>cases hk
  rename_i r M m c wf wg hat
  cases hD:D r (e,l,t,()) M
  ·rw[hD] at hk; cases hk
  rw[hD] at hk
  cases hk
  cases hcaps
  obtain⟨hww,hne,q0,q1,q2,q3⟩:=hpAt_some hat
  obtain⟨N,n,hs,q,hbody,E⟩:=step wf wg r (e,l,t,()) M hww hD
  have S0:=hp_sub hne q0 q1 q2 q3
  have hm:m<h.length:=(List.getElem?_eq_some_iff.1 q2).1
  have ha:a<h.length:=(List.getElem?_eq_some_iff.1 q3).1
  have S1:=hp_sub' (h:=h) (m:=m) hne E q0 q1 hm ha
  obtain⟨n1,n2,n3,n4,n5,n6⟩:=hne
  have keep:∀j,j<h.length→j≠m→j≠a→(hpM h a m (W r (e,l,t,()) M))[j]?=h[j]?:=fun j hj h1 h2=>by
   unfold hpM
   rw[List.getElem?_append_left (by simp; exact hj),List.getElem?_set_ne (Ne.symm h2),List.getElem?_set_ne (Ne.symm h1)]
  cases hv with
  |fn _ _ arr ha1 ha2=>
   refine .inl ⟨_,arr,rfl,fun w=>by kernel_rfl,?_⟩
   have st:=sub_st s (I:=(·<4)) (hs:=hpH wf wg r M) (fun i hi=>hi) S0
   refine (body_calls mixedT tabOk (tower_ok mixedT tabOk (twY_ok fsK3_ok hsp) N n) N Tryz.func36 hbody st (by rw[Array.size_append,←hlen,←ha1]; rfl) fun j c' z hc hz=>?_).mono fun e' w' hp=>sub_post (q:=q) s S0 S1 ⟨.inr (.inr (.inr rfl)),if_pos rfl⟩ (fun i hi=>?_) (by unfold hpM; simp) (fun j hj hn=>keep j hj (fun e=>hn 2 (show 2<4 by omega) e.symm) fun e=>hn 3 (show 3<4 by omega) e.symm) (fun i hi hk=>?_) (fun i hi cs hb=>?_) (fun i hi t e xs hb=>?_) (.agg _ _ rfl fun j c' d' hc hd=>?_) hp
   ·have down:∀ {c' d':AVal} {v:Value},Ren (hpσ c b m a) (·<4) c' d'→Rep h g w d' v→Rep (hpH wf wg r M) ⟨fun i=>g.ρ (hpσ c b m a i),g.M⟩ w c' v:=fun rr hh=>ren_down S0 (g:=g) (gs:=⟨fun i=>g.ρ (hpσ c b m a i),g.M⟩) (fun _ _=>rfl) (fun _ h=>h) rr hh
    match j,hc with
    |0,hc=>
     simp only[List.getElem?_cons_zero,Option.some.injEq] at hc
     subst hc
     have hz':cargs[0]?=some z:=by
      rw[Array.getElem?_append_left (by rw[←hlen]; simp)] at hz
      exact hz
     refine down (.agg _ _ rfl fun j c' d' hc hd=>?_) (hargs 0 _ z rfl hz')
     rw[hc] at hd; cases hd
     match j,hc with
     |0,hc=>cases hc; exact .flat _ rfl
     |1,hc=>cases hc; exact .flat _ rfl
     |2,hc=>cases hc; exact .flat _ rfl
     |j+3,hc=>simp at hc
    |1,hc=>
     simp only[List.getElem?_cons_succ,List.getElem?_cons_zero,Option.some.injEq] at hc
     subst hc
     have hz':arr[0]?=some z:=by
      rw[Array.getElem?_append_right (by rw[←hlen]; simp),←hlen] at hz
      exact hz
     exact down (.op 3 0 (show 3<4 by omega)) (ha2 0 _ z rfl hz')
    |2,hc=>
     simp only[List.getElem?_cons_succ,List.getElem?_cons_zero,Option.some.injEq] at hc
     subst hc
     have hz':arr[1]?=some z:=by
      rw[Array.getElem?_append_right (by rw[←hlen]; simp),←hlen] at hz
      exact hz
     exact down (.op 1 0 (show 1<4 by omega)) (ha2 1 _ z rfl hz')
    |j+3,hc=>simp at hc
   ·by_cases e:i=q
    ·exact .inl e
    ·refine .inr ⟨?_,if_neg e⟩
     rcases hi with rfl|rfl|rfl|rfl
     ·show 0<4; omega
     ·show 1<4; omega
     ·show 3<4; omega
     ·exact absurd rfl e
   ·obtain⟨_,_,_,_,z0,z1,z3⟩:=E
    match i,hi with
    |0,_=>exact absurd ⟨.inl rfl,Ne.symm z0⟩ hk
    |1,_=>exact absurd ⟨.inr (.inl rfl),Ne.symm z1⟩ hk
    |2,_=>
     show (hpM h a m _)[m]?=some ABlk.dead
     unfold hpM
     rw[List.getElem?_append_left (by simp; exact hm),List.getElem?_set_ne (Ne.symm n6),List.getElem?_set,if_pos rfl,if_pos hm]
    |3,_=>exact absurd ⟨.inr (.inr (.inl rfl)),Ne.symm z3⟩ hk
    |i+4,hi=>exact absurd hi (by simp)
   ·match i,hi with
    |0,_=>exact (keep c (List.getElem?_eq_some_iff.1 q0).1 n2 n3).trans hb
    |1,_=>exact (keep b (List.getElem?_eq_some_iff.1 q1).1 n4 n5).trans hb
    |2,_=>
     have:h[m]?=some (ABlk.box false cs):=hb
     rw[q2] at this; cases this
    |3,_=>
     have:h[a]?=some (ABlk.box false cs):=hb
     rw[q3] at this; cases this
    |i+4,hi=>exact absurd hi (by simp)
   ·match i,hi with
    |0,_=>
     have:h[c]?=some (ABlk.row false t e xs):=hb
     rw[q0] at this; cases this
    |1,_=>
     have:h[b]?=some (ABlk.row false t e xs):=hb
     rw[q1] at this; cases this
    |2,_=>
     have:h[m]?=some (ABlk.row false t e xs):=hb
     rw[q2] at this; cases this
    |3,_=>
     have:h[a]?=some (ABlk.row false t e xs):=hb
     rw[q3] at this; cases this
    |i+4,hi=>exact absurd hi (by simp)
   ·rw[hc] at hd; cases hd
    match j,hc with
    |0,hc=>cases hc; exact .flat _ rfl
    |1,hc=>cases hc; exact .flat _ rfl
    |j+2,hc=>simp at hc
abbrev PnS:=Int × MpI × List HpI × Unit
def nxG (e l t p:Int):GsI:=(nxE e,nxL l t p,nxT t p,())
def pnH {α:Type} (D:RvI→GsI→MpI→Bool) (V:RvI→GsI→HpI) (W:RvI→GsI→MpI→MpI) (r:RvI) (e l t:Int) (x:PnS):Option (LRes PnS α):=
 bif hmB t then bif D r (nxG e l t x.1) x.2.1 then
  if (x.2.2.1.length+[(((V r (nxG e l t x.1)).1,(V r (nxG e l t x.1)).2.1,()):HpI)].length)*16≤room then some (.cont (IntKind.i64.wrap (x.1+1),W r (nxG e l t x.1) x.2.1,x.2.2.1++[((V r (nxG e l t x.1)).1,(V r (nxG e l t x.1)).2.1,())],())) else none
 else none else none
def pnZ {α:Type} (b:Bool) (x:PnS):Option (LRes PnS α):=
 if (x.2.2.1.length+[((suV b,suV b,()):HpI)].length)*16≤room then some (.cont (IntKind.i64.wrap (x.1+1),x.2.1,x.2.2.1++[(suV b,suV b,())],())) else none
def pnC {α:Type} (D:RvI→GsI→MpI→Bool) (V:RvI→GsI→HpI) (W:RvI→GsI→MpI→MpI) (r:RvI) (e l t:Int) (x:PnS):Option (LRes PnS α):=
 bif decide (x.1<0) then bif decide (e>0) then pnH D V W r e l t x else pnZ (t==1) x else bif decide (e>0) then pnH D V W r e l t x else pnZ false x
def pnF {α:Type} (D:RvI→GsI→MpI→Bool) (V:RvI→GsI→HpI) (W:RvI→GsI→MpI→MpI) (r:RvI) (e l t:Int) (x:PnS):Option (LRes PnS α):=
 bif decide (x.1≤8) then bif decide (x.1>0) then bif t==0 then bif decide (e>0) then pnH D V W r e l t x else pnZ true x else pnC D V W r e l t x else pnC D V W r e l t x
 else some (.brk 0 (x.1,x.2.1,x.2.2.1,()))
abbrev LhS:=List Int × List Int × Int × Unit
def lhF {α:Type} (H:List HpI) (x:LhS):Option (LRes LhS α):=
 bif decide (x.2.2.1<(H.length:Int)) then
  if 0≤x.2.2.1∧x.2.2.1<(H.length:Int) then
   if (x.1.length+[(H.getD x.2.2.1.toNat (0,0,())).1].length)*8≤room then if (x.2.1.length+[(H.getD x.2.2.1.toNat (0,0,())).2.1].length)*8≤room then
    some (.cont (x.1++[(H.getD x.2.2.1.toNat (0,0,())).1],x.2.1++[(H.getD x.2.2.1.toNat (0,0,())).2.1],IntKind.i64.wrap (x.2.2.1+1),()))
   else none else none
  else none
 else some (.brk 0 (x.1,x.2.1,x.2.2.1,()))
abbrev SgS:=List HpI × List HpI × Int × MpI × Unit
def meH (c lo hi:List Int) (d:Int):HpI:=(bif mnB c lo d then meW mnI 1 c lo d else 0,bif mnB c hi d then meW mxI 2 c hi d else 0,())
def sgM {α:Type} (N:Nat) (d:Int) (c:List Int) (x:SgS):Option (LRes SgS α):=
 afterL (iterL N (lhF x.1) ([],[],0,())) fun id y=>if id=0 then
  if (x.2.1.length+[meH c y.1 y.2.1 d].length)*16≤room then some (.cont (x.1,x.2.1++[meH c y.1 y.2.1 d],IntKind.i64.wrap (x.2.2.1+1),x.2.2.2.1,())) else none
 else none
def sgF {α:Type} (N:Nat) (d e:Int) (L:List (List Int)) (x:SgS):Option (LRes SgS α):=
 bif decide (x.2.2.1<(L.length:Int)) then
  if 0≤x.2.2.1∧x.2.2.1<(L.length:Int) then
   bif e==0 then
    if 0<(L.getD x.2.2.1.toNat []).length then if ((List.nil (α:=Int)).length+(L.getD x.2.2.1.toNat []).length)*8≤room then
     if 0≤(8:Int)∧(8:Int)<((([]:List Int)++L.getD x.2.2.1.toNat []).length:Int) then sgM N d ((([]:List Int)++L.getD x.2.2.1.toNat []).set (Int.toNat 8) 0) x else none
    else none else none
   else sgM N d (L.getD x.2.2.1.toNat []) x
  else none
 else some (.brk 0 (x.1,x.2.1,x.2.2.1,x.2.2.2.1,()))
def hpB (wc wb:Bool) (r:RvI) (q:Nat):List ABlk:=[.box wc [.int .i64 r.1,.ro LsSh r.2.1,.ro LsSh r.2.2,.fn 36 [.op 3 0,.op 1 0]],.box wb [.op 0 0],.dead,.box true [.own q]]
def hpE (wc wb:Bool) (r:RvI) (e l t:Int) (O:List HpI) (M:MpI):List ABlk:=
 hpB wc wb r 20++[.box true [.int .i64 e,.int .i64 l,.int .i64 t],.box true [.int .i64 (chX (opT t) O).1,.int .i64 (chX (opT t) O).2],.box true [.int .i64 (chX (opT t) O).1,.int .i64 (chX (opT t) O).2]]++List.replicate 12 .dead++[.row true 33 HpSh O,.row true 89 MpSh (mpPut GsSh HpSh (e,l,t,()) ((chX (opT t) O).1,(chX (opT t) O).2,()) M)]
def sgT {α:Type} (N:Nat) (wc wb:Bool) (r:RvI) (e l t:Int) (L:List (List Int)) (H:List HpI) (M:MpI) (k:AExit→AVal→List ABlk→Option α):Option α:=
 afterL (iterL N (sgF N r.1 e L) (H,[],0,M,())) fun id z=>if id=0 then
  bif choB z.2.1 t then k .normal (hpA (chX (opT t) z.2.1).1 (chX (opT t) z.2.1).2) (hpE wc wb r e l t z.2.1 z.2.2.2.1) else none
 else none
def fdH (s:GsI) (M:MpI):HpI:=Option.getD (α:=HpI) (mpFind GsSh HpSh s M) (0,0,())
def hpU {α:Type} (N:Nat) (D:RvI→GsI→MpI→Bool) (V:RvI→GsI→HpI) (W:RvI→GsI→MpI→MpI) (wc wb:Bool) (r:RvI) (M:MpI) (e l t:Int) (k:AExit→AVal→List ABlk→Option α):Option α:=
 bif !(mpFind GsSh HpSh (e,l,t,()) M).isSome then
  afterL (iterL N (pnF D V W r e l t) (-8,M,[],())) fun id y=>if id=0 then
   if 0≤t∧t<((2:Nat):Int) then bif t==((0:Nat):Int) then sgT N wc wb r e l t r.2.1 y.2.2.1 y.2.1 k else bif t==((0+1:Nat):Int) then sgT N wc wb r e l t r.2.2 y.2.2.1 y.2.1 k else none else none
  else none
 else k .normal (hpA (fdH (e,l,t,()) M).1 (fdH (e,l,t,()) M).2.1) (hpH wc wb r M++[.box true [.int .i64 e,.int .i64 l,.int .i64 t],.box true [.int .i64 (fdH (e,l,t,()) M).1,.int .i64 (fdH (e,l,t,()) M).2.1],.box true [.int .i64 (fdH (e,l,t,()) M).1,.int .i64 (fdH (e,l,t,()) M).2.1]])
def hpT {α:Type} (N:Nat) (D:RvI→GsI→MpI→Bool) (V:RvI→GsI→HpI) (W:RvI→GsI→MpI→MpI) (wc wb:Bool) (r:RvI) (M:MpI) (e l t:Int) (k:AExit→AVal→List ABlk→Option α):Option α:=
 bif e==0 then bif l != 0 then k .normal (hpA (suV (decide (l>0))) (suV (decide (l>0)))) (hpH wc wb r M++[.box true [.int .i64 e,.int .i64 l,.int .i64 t],.box true [.int .i64 (suV (decide (l>0))),.int .i64 (suV (decide (l>0)))]])
  else hpU N D V W wc wb r M e l t k
 else hpU N D V W wc wb r M e l t k
set_option maxRecDepth 100000 in
theorem hp_bodyA (N n0:Nat) (D:RvI→GsI→MpI→Bool) (V:RvI→GsI→HpI) (W:RvI→GsI→MpI→MpI) (d:Int) (A B:List (List Int)) (M:MpI) (e l t:Int) (α:Type) (k:AExit→AVal→List ABlk→Option α):evBody real tab ((twY fsK3 (spH D V W)).env real tab N (n0+30)) N Tryz.f36 (α:=α) [.agg [.int .i64 e,.int .i64 l,.int .i64 t],.op 3 0,.op 1 0] (hpH true true (d,A,B) M) k=hpT N D V W true true (d,A,B) M e l t k:=by kernel_rfl
set_option maxRecDepth 100000 in
theorem hp_bodyB (N n0:Nat) (D:RvI→GsI→MpI→Bool) (V:RvI→GsI→HpI) (W:RvI→GsI→MpI→MpI) (d:Int) (A B:List (List Int)) (M:MpI) (e l t:Int) (α:Type) (k:AExit→AVal→List ABlk→Option α):evBody real tab ((twY fsK3 (spH D V W)).env real tab N (n0+30)) N Tryz.f36 (α:=α) [.agg [.int .i64 e,.int .i64 l,.int .i64 t],.op 3 0,.op 1 0] (hpH false false (d,A,B) M) k=hpT N D V W false false (d,A,B) M e l t k:=by kernel_rfl
set_option maxRecDepth 100000 in
theorem hp_bodyC (N n0:Nat) (D:RvI→GsI→MpI→Bool) (V:RvI→GsI→HpI) (W:RvI→GsI→MpI→MpI) (d:Int) (A B:List (List Int)) (M:MpI) (e l t:Int) (α:Type) (k:AExit→AVal→List ABlk→Option α):evBody real tab ((twY fsK3 (spH D V W)).env real tab N (n0+30)) N Tryz.f36 (α:=α) [.agg [.int .i64 e,.int .i64 l,.int .i64 t],.op 3 0,.op 1 0] (hpH false true (d,A,B) M) k=hpT N D V W false true (d,A,B) M e l t k:=by kernel_rfl
theorem hp_body (w wb:Bool) (hw:(wb || !w)=true) (N n0:Nat) (D:RvI→GsI→MpI→Bool) (V:RvI→GsI→HpI) (W:RvI→GsI→MpI→MpI) (r:RvI) (M:MpI) (e l t:Int) (α:Type) (k:AExit→AVal→List ABlk→Option α):evBody real tab ((twY fsK3 (spH D V W)).env real tab N (n0+30)) N Tryz.f36 (α:=α) [.agg [.int .i64 e,.int .i64 l,.int .i64 t],.op 3 0,.op 1 0] (hpH w wb r M) k=hpT N D V W w wb r M e l t k:=by
 cases w<;>cases wb
 ·exact hp_bodyB N n0 D V W r.1 r.2.1 r.2.2 M e l t α k
 ·exact hp_bodyC N n0 D V W r.1 r.2.1 r.2.2 M e l t α k
 ·cases hw
 ·exact hp_bodyA N n0 D V W r.1 r.2.1 r.2.2 M e l t α k
/-! The points of an end. -/
def suB (t p:Int):Bool:=(decide (p>0)&&t==0) || (decide (p<0)&&t==1)
def hpO (V:RvI→GsI→HpI) (r:RvI) (e l t p:Int):HpI:=bif decide (e>0) then V r (nxG e l t p) else (suV (suB t p),suV (suB t p),())
def pnL (V:RvI→GsI→HpI) (r:RvI) (e l t:Int) (i:Nat):List HpI:=(List.range i).map fun j:Nat=>hpO V r e l t ((j:Int)-8)
def pnM (W:RvI→GsI→MpI→MpI) (r:RvI) (e l t:Int) (M:MpI):Nat→MpI
 |0=>M
 |i+1=>bif decide (e>0) then W r (nxG e l t ((i:Int)-8)) (pnM W r e l t M i) else pnM W r e l t M i
theorem pnL_succ (V:RvI→GsI→HpI) (r:RvI) (e l t:Int) (i:Nat):pnL V r e l t (i+1)=pnL V r e l t i++[hpO V r e l t ((i:Int)-8)]:=by
 unfold pnL
 rw[List.range_succ,List.map_append]; rfl
theorem pnL_len (V:RvI→GsI→HpI) (r:RvI) (e l t:Int) (i:Nat):(pnL V r e l t i).length=i:=by
 unfold pnL
 rw[List.length_map,List.length_range]
theorem pnF_eq0 {α:Type} (D:RvI→GsI→MpI→Bool) (V:RvI→GsI→HpI) (W:RvI→GsI→MpI→MpI) (r:RvI) (e l t:Int) (x:PnS) (h8:x.1≤8):pnF (α:=α) D V W r e l t x=bif decide (e>0) then pnH D V W r e l t x else pnZ (suB t x.1) x:=by
 unfold pnF pnC suB
 rw[decide_eq_true h8,cond_true]
 by_cases h1:x.1>0
 ·rw[decide_eq_true h1,decide_eq_false (show ¬x.1<0 by omega),cond_true,cond_false]
  cases t==0<;>rfl
 ·rw[decide_eq_false h1,cond_false]
  by_cases h2:x.1<0
  ·rw[decide_eq_true h2,cond_true]
   rfl
  ·rw[decide_eq_false h2,cond_false]
   rfl
theorem pnF_eq {α:Type} {D:RvI→GsI→MpI→Bool} {V:RvI→GsI→HpI} {W:RvI→GsI→MpI→MpI} {r:RvI} {e l t:Int} (ht:hmB t=true) {M:MpI} {i:Nat} (hi:i<17) (hD:e>0→D r (nxG e l t ((i:Int)-8)) (pnM W r e l t M i)=true) :
  pnF (α:=α) D V W r e l t ((i:Int)-8,pnM W r e l t M i,pnL V r e l t i,())=some (.cont (((i+1:Nat):Int)-8,pnM W r e l t M (i+1),pnL V r e l t (i+1),())):=by
 have hl:=pnL_len V r e l t i
 have hr:((pnL V r e l t i).length+1)*16≤room:=by rw[hl]; simp only[room]; omega
 have hw:IntKind.i64.wrap ((i:Int)-8+1)=((i+1:Nat):Int)-8:=by rw[IntKind.wrap_i64]; omega
 rw[pnF_eq0 _ _ _ _ _ _ _ _ (show (i:Int)-8≤8 by omega),pnL_succ]
 simp only[pnM,hpO]
 by_cases he:e>0
 ·rw[decide_eq_true he,cond_true,cond_true,cond_true]
  unfold pnH
  simp only[]
  rw[ht,hD he,cond_true,cond_true,hw]
  exact if_pos hr
 ·rw[decide_eq_false he,cond_false,cond_false,cond_false]
  unfold pnZ
  simp only[]
  rw[hw]
  exact if_pos hr
theorem pn_run {α:Type} {D:RvI→GsI→MpI→Bool} {V:RvI→GsI→HpI} {W:RvI→GsI→MpI→MpI} {r:RvI} {e l t:Int} (ht:hmB t=true) {M:MpI} (hD:∀i:Nat,i<17→e>0→D r (nxG e l t ((i:Int)-8)) (pnM W r e l t M i)=true) (K:Nat→PnS→Option α) :
  afterL (iterL 20 (pnF D V W r e l t) (-8,M,[],())) K=K 0 (9,pnM W r e l t M 17,pnL V r e l t 17,()):=
 count_loop (f:=pnF D V W r e l t) (fun i=>((i:Int)-8,pnM W r e l t M i,pnL V r e l t i,())) 17 (fun i hi=>pnF_eq ht hi (hD i hi)) (y:=(9,pnM W r e l t M 17,pnL V r e l t 17,())) (b:=0) (by
  unfold pnF
  rfl) (by omega)
/-! The bounds of a style. -/
def lhS (H:List HpI) (i:Nat):LhS:=((H.take i).map (·.1),(H.take i).map (·.2.1),(i:Int),())
theorem lhF_eq {α:Type} (H:List HpI) (hH:H.length≤100) {i:Nat} (hi:i<H.length):lhF (α:=α) H (lhS H i)=some (.cont (lhS H (i+1))):=by
 unfold lhS
 have hmx:H.length≤maxLen:=by have:maxLen=9223372036854775807:=rfl; omega
 have e:H.take (i+1)=H.take i++[H.getD i (0,0,())]:=by
  rw[List.take_add_one,List.getElem?_eq_getElem hi,List.getD_eq_getElem?_getD,List.getElem?_eq_getElem hi]; rfl
 have hl:(H.take i).length=i:=List.length_take_of_le (by omega)
 have r1:(((H.take i).map (·.1)).length+1)*8≤room:=by rw[List.length_map,hl]; simp only[room]; omega
 have r2:(((H.take i).map (·.2.1)).length+1)*8≤room:=by rw[List.length_map,hl]; simp only[room]; omega
 rw[e,List.map_append,List.map_append]
 unfold lhF
 simp only[]
 rw[lt_len hi,cond_true,if_pos (in_len hi),wrap_next hi hmx,Int.toNat_natCast]
 rw[if_pos (show (((H.take i).map (·.1)).length+[(H.getD i (0,0,())).1].length)*8≤room from r1),if_pos (show (((H.take i).map (·.2.1)).length+[(H.getD i (0,0,())).2.1].length)*8≤room from r2)]
 rfl
theorem lh_run {α:Type} (H:List HpI) (hH:H.length≤100) {N:Nat} (hN:H.length<N) (K:Nat→LhS→Option α):afterL (iterL N (lhF H) ([],[],0,())) K=K 0 (H.map (·.1),H.map (·.2.1),(H.length:Int),()):=by
 have e0:(([],[],0,()):LhS)=lhS H 0:=rfl
 have e1:lhS H H.length=(H.map (·.1),H.map (·.2.1),(H.length:Int),()):=by unfold lhS; rw[List.take_length]
 rw[e0,←e1]
 refine count_loop (f:=lhF H) (lhS H) H.length (fun i hi=>lhF_eq H hH hi) (y:=lhS H H.length) (b:=0) ?_ hN
 rw[e1]
 unfold lhF
 simp only[not_lt_len,cond_false]
def cnZ (e:Int) (c:List Int):List Int:=bif e==0 then c.set 8 0 else c
def syH (d e:Int) (H:List HpI) (c:List Int):HpI:=meH (cnZ e c) (H.map (·.1)) (H.map (·.2.1)) d
def sgS (d e:Int) (L:List (List Int)) (H:List HpI) (M:MpI) (i:Nat):SgS:=(H,(L.take i).map (syH d e H),(i:Int),M,())
theorem sgF_eq {α:Type} {d e:Int} {L:List (List Int)} {H:List HpI} {M:MpI} (hH:H.length≤18) (hL:L.length≤8) {i:Nat} (hi:i<L.length) (hc:(L.getD i []).length=17) :
  sgF (α:=α) 20 d e L (sgS d e L H M i)=some (.cont (sgS d e L H M (i+1))):=by
 unfold sgS
 have hmx:L.length≤maxLen:=by have:maxLen=9223372036854775807:=rfl; omega
 have hE:L.take (i+1)=L.take i++[L.getD i []]:=by
  rw[List.take_add_one,List.getElem?_eq_getElem hi,List.getD_eq_getElem?_getD,List.getElem?_eq_getElem hi]; rfl
 have hl:(L.take i).length=i:=List.length_take_of_le (by omega)
 have hm:∀c:List Int,sgM (α:=α) 20 d c (H,(L.take i).map (syH d e H),(i:Int),M,())=some (.cont (H,(L.take i).map (syH d e H)++[meH c (H.map (·.1)) (H.map (·.2.1)) d],((i+1:Nat):Int),M,())):=fun c=>by
  unfold sgM
  refine (lh_run H (by omega) (by omega) _).trans ?_
  rw[if_pos rfl]
  have hr:(((L.take i).map (syH d e H)).length+1)*16≤room:=by rw[List.length_map,hl]; simp only[room]; omega
  simp only[]
  rw[wrap_next hi hmx]
  exact if_pos hr
 have hr:room≥10000:=by decide
 rw[hE,List.map_append]
 unfold sgF
 simp only[]
 rw[lt_len hi,cond_true,if_pos (in_len hi),Int.toNat_natCast,hm,hm]
 cases he:e==0
 ·simp only[cond_false,syH,cnZ,he,List.map_cons,List.map_nil]
 ·rw[cond_true,if_pos (show 0<(L.getD i []).length by omega),if_pos (show ((List.nil (α:=Int)).length+(L.getD i []).length)*8≤room by rw[hc]; simp only[List.length_nil]; omega),if_pos (show 0≤(8:Int)∧(8:Int)<((([]:List Int)++L.getD i []).length:Int) by rw[List.nil_append,hc]; omega)]
  simp only[syH,cnZ,he,cond_true,List.map_cons,List.map_nil,List.nil_append]
  rfl
theorem sg_run {α:Type} {d e:Int} {L:List (List Int)} {H:List HpI} {M:MpI} (hH:H.length≤18) (hL:L.length≤8) (hc:∀i,i<L.length→(L.getD i []).length=17) (K:Nat→SgS→Option α) :
  afterL (iterL 20 (sgF 20 d e L) (H,[],0,M,())) K=K 0 (H,L.map (syH d e H),(L.length:Int),M,()):=by
 have e0:((H,[],0,M,()):SgS)=sgS d e L H M 0:=rfl
 have e1:sgS d e L H M L.length=(H,L.map (syH d e H),(L.length:Int),M,()):=by unfold sgS; rw[List.take_length]
 rw[e0,←e1]
 refine count_loop (f:=sgF 20 d e L) (sgS d e L H M) L.length (fun i hi=>sgF_eq hH hL hi (hc i hi)) (y:=sgS d e L H M L.length) (b:=0) ?_ (by omega)
 rw[e1]
 unfold sgF
 simp only[not_lt_len,cond_false]
def opL (r:RvI) (t:Int):List (List Int):=bif t==0 then r.2.1 else r.2.2
def stH (V:RvI→GsI→HpI) (r:RvI) (e l t:Int):List HpI:=(opL r t).map (syH r.1 e (pnL V r e l t 17))
def chO (t:Int) (L:List HpI):HpI:=((chX (opT t) L).1,(chX (opT t) L).2,())
def hvN:Nat→RvI→GsI→HpI
 |0,r,s=>bif s.2.1 != 0 then (suV (decide (s.2.1>0)),suV (decide (s.2.1>0)),()) else chO s.2.2.1 (stH (fun _ _=>(0,0,())) r s.1 s.2.1 s.2.2.1)
 |n+1,r,s=>chO s.2.2.1 (stH (hvN n) r s.1 s.2.1 s.2.2.1)
def hv (r:RvI) (s:GsI):HpI:=hvN s.1.toNat r s
def wvN:Nat→RvI→GsI→MpI→MpI
 |0,r,s,M=>bif s.2.1 != 0 then M else bif (mpFind GsSh HpSh s M).isSome then M else mpPut GsSh HpSh s (hv r s) M
 |n+1,r,s,M=>bif (mpFind GsSh HpSh s M).isSome then M else mpPut GsSh HpSh s (hv r s) (pnM (wvN n) r s.1 s.2.1 s.2.2.1 M 17)
def wv (r:RvI) (s:GsI) (M:MpI):MpI:=wvN s.1.toNat r s M
/-! What is asked. -/
def rv1 (L:List (List Int)):Bool:=decide (1≤L.length)&&(decide (L.length≤8)&&L.all fun c=>cntW c&&decide (c.length=17))
def rvB (r:RvI):Bool:=rv1 r.2.1&&(rv1 r.2.2&&(decide (1≤r.1)&&decide (r.1≤1000)))
def stB (s:GsI):Bool:=(decide (0≤s.1)&&decide (s.1≤12))&&((decide (-96≤s.2.1)&&decide (s.2.1≤96))&&hmB s.2.2.1)
def gdB (r:RvI) (M:MpI):Bool:=M.all fun x=>x.2.1==(hv r x.1).1&&x.2.2.1==(hv r x.1).2.1
def hpD (k:Nat) (r:RvI) (s:GsI) (M:MpI):Bool:=rvB r&&(stB s&&(decide (s.1<(k:Int))&&gdB r M))
theorem gs_eq {a b:GsI} (h:Sh.eqb GsSh a b=true):a=b:=by
 obtain⟨a1,a2,a3,_⟩:=a
 obtain⟨b1,b2,b3,_⟩:=b
 have h':((a1==b1)&&((a2==b2)&&((a3==b3)&&true)))=true:=h
 simp only[Bool.and_eq_true,beq_iff_eq] at h'
 obtain⟨rfl,rfl,rfl,_⟩:=h'
 rfl
theorem gd_find {r:RvI} {M:MpI} (h:gdB r M=true) {s:GsI} {v:HpI} (hf:mpFind GsSh HpSh s M=some v):v=hv r s:=by
 induction M with
 |nil=>cases hf
 |cons p M ih=>
  unfold gdB at h
  rw[List.all_cons,Bool.and_eq_true] at h
  change (bif Sh.eqb GsSh s p.1 then some p.2 else mpFind GsSh HpSh s M)=some v at hf
  cases he:Sh.eqb GsSh s p.1
  ·rw[he] at hf
   exact ih h.2 hf
  ·rw[he] at hf
   cases (show some p.2=some v from hf)
   have e:=gs_eq he
   have h1:=h.1
   simp only[Bool.and_eq_true,beq_iff_eq] at h1
   obtain⟨s',v1,v2,_⟩:=p
   cases e
   exact Prod.ext h1.1 (Prod.ext h1.2 rfl)
theorem gd_put {r:RvI} {M:MpI} (h:gdB r M=true) (s:GsI):gdB r (mpPut GsSh HpSh s (hv r s) M)=true:=by
 have hs:gdB r [(s,hv r s)]=true:=by
  unfold gdB
  simp
 induction M with
 |nil=>exact hs
 |cons p M ih=>
  unfold gdB at h
  rw[List.all_cons,Bool.and_eq_true] at h
  show gdB r (bif Sh.eqb GsSh s p.1 then (s,hv r s)::M else p::mpPut GsSh HpSh s (hv r s) M)=true
  cases he:Sh.eqb GsSh s p.1
  ·show ((p.2.1==(hv r p.1).1&&p.2.2.1==(hv r p.1).2.1)&&gdB r (mpPut GsSh HpSh s (hv r s) M))=true
   rw[h.1,ih h.2]; rfl
  ·show (((hv r s).1==(hv r s).1&&(hv r s).2.1==(hv r s).2.1)&&gdB r M)=true
   rw[beq_self_eq_true,beq_self_eq_true,show gdB r M=true from h.2]; rfl
theorem gd_fold {r:RvI} {W:RvI→GsI→MpI→MpI} (hW:∀s M,gdB r M=true→gdB r (W r s M)=true) (e l t:Int) {M:MpI} (h:gdB r M=true):∀i,gdB r (pnM W r e l t M i)=true
 |0=>h
 |i+1=>by
  rw[pnM]
  cases decide (e>0)
  ·exact gd_fold hW e l t h i
  ·exact hW _ _ (gd_fold hW e l t h i)
theorem gd_wvN {r:RvI}:∀(n:Nat) (s:GsI) (M:MpI),gdB r M=true→gdB r (wvN n r s M)=true
 |0,s,M,h=>by
  rw[wvN]
  cases s.2.1 != 0
  ·cases (mpFind GsSh HpSh s M).isSome
   ·exact gd_put h s
   ·exact h
  ·exact h
 |n+1,s,M,h=>by
  rw[wvN]
  cases (mpFind GsSh HpSh s M).isSome
  ·exact gd_put (gd_fold (gd_wvN n) _ _ _ h 17) s
  ·exact h
theorem gd_wv {r:RvI} (s:GsI) (M:MpI) (h:gdB r M=true):gdB r (wv r s M)=true:=gd_wvN _ s M h
theorem clL_in (x:Int):-96≤clL x∧clL x≤96:=by
 unfold clL
 split<;>split at*<;>omega
theorem stB_in {s:GsI} (h:stB s=true):(0≤s.1∧s.1≤12)∧(-96≤s.2.1∧s.2.1≤96)∧(s.2.2.1=0∨s.2.2.1=1):=by
 unfold stB hmB at h
 simpa only[Bool.and_eq_true,Bool.or_eq_true,decide_eq_true_eq,beq_iff_eq] using h
theorem nx_e {e:Int} (h0:0<e) (h1:e≤12):nxE e=e-1:=by
 unfold nxE
 rw[IntKind.wrap_i64]; omega
theorem nx_st {e l t p:Int} (h:stB (e,l,t,())=true) (h0:0<e):stB (nxG e l t p)=true:=by
 obtain⟨h1,h2,h3⟩:=stB_in h
 have hc:=clL_in (IntKind.i64.wrap (l+IntKind.i64.wrap ((bif t==0 then 1 else -1)*p)))
 unfold stB nxG nxL nxT hmB
 simp only[nx_e h0 h1.2,Bool.and_eq_true,Bool.or_eq_true,decide_eq_true_eq,beq_iff_eq]
 refine⟨⟨by omega,by omega⟩,hc,?_⟩
 simp only at h3
 rcases h3 with rfl|rfl
 ·cases decide (p>0)
  ·exact .inl rfl
  ·exact .inr rfl
 ·cases decide (p>0)
  ·exact .inr rfl
  ·exact .inl rfl
theorem pnL_congr {V V':RvI→GsI→HpI} {r:RvI} {e l t:Int} (h:∀p,e>0→V r (nxG e l t p)=V' r (nxG e l t p)) (n:Nat):pnL V r e l t n=pnL V' r e l t n:=by
 unfold pnL
 refine List.map_congr_left fun j _=>?_
 unfold hpO
 by_cases he:e>0
 ·rw[h _ he]
 ·rw[decide_eq_false he]; rfl
theorem hv_eq {r:RvI} {e l t:Int} (h0:0≤e) (h1:e≤12):hv r (e,l,t,())=bif e==0&&l != 0 then (suV (decide (l>0)),suV (decide (l>0)),()) else chO t (stH hv r e l t):=by
 by_cases he:e=0
 ·subst he
  show hvN 0 r (0,l,t,())=_
  rw[hvN]
  unfold stH
  rw[pnL_congr (V:=fun _ _=>(0,0,())) (V':=hv) (fun p h=>absurd h (by omega))]
  rfl
 ·obtain⟨n,hn⟩:∃n:Nat,e=(n:Int)+1:=⟨(e-1).toNat,by omega⟩
  have hz:hv r (e,l,t,())=hvN (n+1) r (e,l,t,()):=by
   show hvN e.toNat r _=_
   rw[show e.toNat=n+1 by omega]
  rw[hz,hvN,show (e==0)=false from beq_eq_false_iff_ne.2 he,Bool.false_and,cond_false]
  unfold stH
  rw[pnL_congr (V:=hvN n) (V':=hv) (fun p h=>?_)]
  show _=hvN (nxE e).toNat r _
  rw[nx_e (by omega) h1,show (e-1).toNat=n by omega]
theorem pnM_congr {V V':RvI→GsI→MpI→MpI} {r:RvI} {e l t:Int} (h:∀p M,e>0→V r (nxG e l t p) M=V' r (nxG e l t p) M) (M:MpI):∀n,pnM V r e l t M n=pnM V' r e l t M n
 |0=>rfl
 |n+1=>by
  rw[pnM,pnM,pnM_congr h M n]
  by_cases he:e>0
  ·rw[h _ _ he]
  ·rw[decide_eq_false he]; rfl
theorem pnM_zero (W:RvI→GsI→MpI→MpI) (r:RvI) (l t:Int) (M:MpI):∀n,pnM W r 0 l t M n=M
 |0=>rfl
 |n+1=>by rw[pnM]; exact pnM_zero W r l t M n
theorem wv_eq {r:RvI} {e l t:Int} {M:MpI} (h0:0≤e) (h1:e≤12):wv r (e,l,t,()) M=bif e==0&&l != 0 then M else bif (mpFind GsSh HpSh (e,l,t,()) M).isSome then M else mpPut GsSh HpSh (e,l,t,()) (hv r (e,l,t,())) (pnM wv r e l t M 17):=by
 by_cases he:e=0
 ·subst he
  show wvN 0 r (0,l,t,()) M=_
  rw[wvN,pnM_zero]
  rfl
 ·obtain⟨n,hn⟩:∃n:Nat,e=(n:Int)+1:=⟨(e-1).toNat,by omega⟩
  have hz:wv r (e,l,t,()) M=wvN (n+1) r (e,l,t,()) M:=by
   show wvN e.toNat r _ _=_
   rw[show e.toNat=n+1 by omega]
  rw[hz,wvN,show (e==0)=false from beq_eq_false_iff_ne.2 he,Bool.false_and,cond_false]
  rw[pnM_congr (V:=wvN n) (V':=wv) (fun p M h=>?_)]
  ·rfl
  ·show _=wvN (nxE e).toNat r _ M
   rw[nx_e (by omega) h1,show (e-1).toNat=n by omega]
theorem rv1_in {L:List (List Int)} (h:rv1 L=true):1≤L.length∧L.length≤8∧∀i,i<L.length→cntW (L.getD i [])=true∧(L.getD i []).length=17:=by
 unfold rv1 at h
 simp only[Bool.and_eq_true,decide_eq_true_eq,List.all_eq_true] at h
 refine⟨h.1,h.2.1,fun i hi=>?_⟩
 rw[List.getD_eq_getElem?_getD,List.getElem?_eq_getElem hi]
 exact h.2.2 _ (List.getElem_mem hi)
theorem rvB_in {r:RvI} (h:rvB r=true):rv1 r.2.1=true∧rv1 r.2.2=true∧1≤r.1∧r.1≤1000:=by
 unfold rvB at h
 simpa only[Bool.and_eq_true,decide_eq_true_eq] using h
theorem sg_text {w wb:Bool} {r:RvI} {e l t:Int} {L:List (List Int)} (hL:rv1 L=true) (ht:hmB t=true) {H:List HpI} (hH:H.length=17) {M:MpI}:sgT 20 w wb r e l t L H M tripE=some (.normal,hpA (chX (opT t) (L.map (syH r.1 e H))).1 (chX (opT t) (L.map (syH r.1 e H))).2,hpE w wb r e l t (L.map (syH r.1 e H)) M):=by
 obtain⟨h1,h2,h3⟩:=rv1_in hL
 have hB:choB (L.map (syH r.1 e H)) t=true:=by
  unfold choB
  rw[ht,List.length_map,decide_eq_true (by omega)]; rfl
 unfold sgT
 refine (sg_run (by omega) h2 (fun i hi=>(h3 i hi).2) _).trans ?_
 show (bif choB (L.map (syH r.1 e H)) t then _ else _)=_
 rw[hB]
 rfl
theorem hpE_end {w wb:Bool} {r:RvI} {e l t:Int} {O:List HpI} {M:MpI}:HpEnd w wb r (mpPut GsSh HpSh (e,l,t,()) ((chX (opT t) O).1,(chX (opT t) O).2,()) M) (hpE w wb r e l t O M) 20:=⟨rfl,rfl,rfl,rfl,by omega,by omega,by omega⟩
theorem hpH_end {w wb:Bool} {r:RvI} {M:MpI} {B:List ABlk}:HpEnd w wb r M (hpH w wb r M++B) 2:=⟨rfl,rfl,rfl,rfl,by omega,by omega,by omega⟩
theorem hp_step (k:Nat) (w wb:Bool) (r:RvI) (s:GsI) (M:MpI) (h:hpD (k+1) r s M=true):∃hs q,hpT 20 (hpD k) hv wv w wb r M s.1 s.2.1 s.2.2.1 tripE=some (.normal,hpA (hv r s).1 (hv r s).2.1,hs)∧HpEnd w wb r (wv r s M) hs q:=by
 obtain⟨e,l,t,_⟩:=s
 unfold hpD at h
 simp only[Bool.and_eq_true,decide_eq_true_eq] at h
 obtain⟨hr,hs,hk,hg⟩:=h
 obtain⟨h1,h2,h3⟩:=stB_in hs
 have ht:hmB t=true:=by
  unfold hmB
  rw[Bool.or_eq_true,beq_iff_eq,beq_iff_eq]; exact h3
 simp only at h1 h2 h3
 have hU:(e==0&&l != 0)=false→∃hs q,hpU 20 (hpD k) hv wv w wb r M e l t tripE=some (.normal,hpA (hv r (e,l,t,())).1 (hv r (e,l,t,())).2.1,hs)∧HpEnd w wb r (wv r (e,l,t,()) M) hs q:=fun hn=>by
  have ehv:=hv_eq (r:=r) (l:=l) (t:=t) h1.1 h1.2
  have ewv:=wv_eq (r:=r) (l:=l) (t:=t) (M:=M) h1.1 h1.2
  rw[hn,cond_false] at ehv ewv
  unfold hpU
  cases hf:mpFind GsSh HpSh (e,l,t,()) M with
  |some v=>
   rw[hf] at ewv
   rw[ewv]
   have hv':=gd_find hg hf
   refine⟨_,2,?_,hpH_end (B:=[.box true [.int .i64 e,.int .i64 l,.int .i64 t],.box true [.int .i64 (fdH (e,l,t,()) M).1,.int .i64 (fdH (e,l,t,()) M).2.1],.box true [.int .i64 (fdH (e,l,t,()) M).1,.int .i64 (fdH (e,l,t,()) M).2.1]])⟩
   have hfd:fdH (e,l,t,()) M=hv r (e,l,t,()):=(congrArg (fun o=>Option.getD (α:=HpI) o (0,0,())) hf).trans hv'
   rw[hfd]
   rfl
  |none=>
   rw[hf] at ewv
   replace ewv:wv r (e,l,t,()) M=mpPut GsSh HpSh (e,l,t,()) (hv r (e,l,t,())) (pnM wv r e l t M 17):=ewv
   rw[ewv,ehv]
   refine⟨hpE w wb r e l t (stH hv r e l t) (pnM wv r e l t M 17),20,?_,hpE_end⟩
   refine (pn_run ht (fun i _ he=>?_) _).trans ?_
   ·unfold hpD
    simp only[Bool.and_eq_true,decide_eq_true_eq]
    refine⟨hr,nx_st hs he,?_,gd_fold gd_wv e l t hg i⟩
    show nxE e<_
    rw[nx_e he h1.2]; omega
   ·rw[if_pos rfl]
    obtain⟨r1,r2,_⟩:=rvB_in hr
    have h17:=pnL_len hv r e l t 17
    rcases h3 with rfl|rfl
    ·exact sg_text r1 rfl h17
    ·exact sg_text r2 rfl h17
 unfold hpT
 cases h0:e==0
 ·exact hU (by rw[h0]; rfl)
 ·cases hl:l != 0
  ·exact hU (by rw[hl,Bool.and_false])
  ·have ehv:=hv_eq (r:=r) (l:=l) (t:=t) h1.1 h1.2
   have ewv:=wv_eq (r:=r) (l:=l) (t:=t) (M:=M) h1.1 h1.2
   rw[h0,hl] at ehv ewv
   rw[ehv,ewv]
   exact⟨_,2,rfl,hpH_end⟩
theorem hp_at:∀(k:Nat) (cv:Cv) (caps:List AVal),CvAt Tryz.prog (hpX (hpD k) hv wv cv) (.fn 36 caps)
 |0=>hpX_at spC_ok fun w wb r s M hw h=>by
  unfold hpD at h
  simp only[Bool.and_eq_true,decide_eq_true_eq] at h
  have:=(stB_in h.2.1).1.1
  omega
 |k+1=>hpX_at (sp:=spH (hpD k) hv wv) (sp_cons (fun cv _ caps=>hp_at k cv caps) spC_ok) fun w wb r s M hw h=>by
  obtain⟨hs,q,e,E⟩:=hp_step k w wb r s M h
  exact⟨20,30,hs,q,(hp_body w wb hw 20 0 _ _ _ r M s.1 s.2.1 s.2.2.1 _ tripE).trans e,E⟩
noncomputable def spK:FuncId→Option (Cv→Cv):=spH (hpD 13) hv wv
theorem spK_ok:SpOk spK:=sp_cons (fun cv _ caps=>hp_at 13 cv caps) spC_ok
def c17 (c:List Int):Bool:=cntW c&&((c.length:Int)==17)
def crG {α:Type} (L:List (List Int)) (R E:Option α) (y:Int × Unit):Option (LRes (Int × Unit) α):=
 bif decide (y.1<(L.length:Int)) then
  if 0≤y.1∧y.1<(L.length:Int) then
   bif !c17 (L.getD y.1.toNat []) then finL (bif decide (y.1≥0) then R else E) else some (.cont (IntKind.i64.wrap (y.1+1),()))
  else none
 else some (.brk 0 (y.1,()))
def cr1 {α:Type} (N:Nat) (L:List (List Int)) (R E:Option α):Option α:=
 bif decide (1≤(L.length:Int)) then bif !decide ((L.length:Int)≤8) then R else afterL (iterL N (crG L R E) (0,())) fun id _=>if id=0 then E else none else R
def crF {α:Type} (N:Nat) (A B:List (List Int)) (R:Option α) (x:Int × Unit):Option (LRes (Int × Unit) α):=
 bif decide (x.1<2) then
  if 0≤x.1∧x.1<((2:Nat):Int) then cr1 N ([A,B].getD x.1.toNat []) (finL R) (some (.cont (IntKind.i64.wrap (x.1+1),()))) else none
 else some (.brk 0 (x.1,()))
def crT {α:Type} (N:Nat) (d:Int) (A B:List (List Int)) (k:AOut→Option α):Option α:=
 afterL (iterL N (crF N A B (k (i1 2))) (0,())) fun id _=>if id=0 then bif decide (1≤d) then bif !decide (d≤1000) then k (i1 2) else k (i1 0) else k (i1 2) else none
set_option maxRecDepth 100000 in
theorem kcr_text (N n0:Nat) (α:Type) (d:Int) (A B:List (List Int)) (k:AOut→Option α):evFn real tab ((twY fsK3 spK).env real tab N (n0+30)) N Tryz.f33 α [.agg [.int .i64 d,.ro LsSh A,.ro LsSh B]] k=crT N d A B k:=by kernel_rfl
theorem c17_all (L:List (List Int)):((List.range L.length).any fun i=>!c17 (L.getD i []))=!L.all fun c=>cntW c&&decide (c.length=17):=by
 rw[any_rangeX L [] fun c=>!c17 c]
 have h17:∀c:List Int,((c.length:Int)==17)=decide (c.length=17):=fun c=>by
  rw[Bool.eq_iff_iff,beq_iff_eq,decide_eq_true_eq]; omega
 induction L with
 |nil=>rfl
 |cons c L ih=>
  rw[List.any_cons,List.all_cons,ih,Bool.not_and]
  unfold c17
  rw[h17]
theorem cr1_eq {α:Type} {N:Nat} (hN:9<N) (L:List (List Int)) (R E:Option α):cr1 N L R E=bif rv1 L then E else R:=by
 unfold cr1 rv1
 by_cases h1:1≤L.length
 case neg=>rw[decide_eq_false (show ¬1≤(L.length:Int) by omega),decide_eq_false h1]; rfl
 by_cases h8:L.length≤8
 case neg=>rw[decide_eq_true (show 1≤(L.length:Int) by omega),decide_eq_false (show ¬(L.length:Int)≤8 by omega),decide_eq_true h1,decide_eq_false h8]; rfl
 rw[decide_eq_true (show 1≤(L.length:Int) by omega),decide_eq_true (show (L.length:Int)≤8 by omega),decide_eq_true h1,decide_eq_true h8]
 have hmx:L.length≤maxLen:=by have:maxLen=9223372036854775807:=rfl; omega
 refine (any_loop' (f:=crG L R E) (fun i:Nat=>((i:Int),())) L.length (fun i=>!c17 (L.getD i [])) R (fun i hi=>?_) (y:=((L.length:Int),())) (b:=0) ?_ (by omega)).trans ?_
 ·unfold crG
  simp only[lt_len hi,cond_true,in_len hi,if_pos,and_self,decide_true,Int.toNat_natCast,wrap_next hi hmx]
  try (rw[decide_eq_true (show (i:Int)≥0 by omega)]; rfl)
 ·unfold crG
  simp only[not_lt_len,cond_false]
 ·rw[if_pos rfl,c17_all]
  show _=bif true&&(true&&_) then E else R
  rw[Bool.true_and,Bool.true_and]
  cases L.all fun c=>cntW c&&decide (c.length=17)<;>rfl
theorem crT_eq {α:Type} {N:Nat} (hN:9<N) (d:Int) (A B:List (List Int)) (k:AOut→Option α):crT N d A B k=k (i1 (bif rvB (d,A,B) then 0 else 2)):=by
 unfold crT
 refine (any_loop' (f:=crF N A B (k (i1 2))) (fun i:Nat=>((i:Int),())) 2 (fun i=>!rv1 ([A,B].getD i [])) (k (i1 2)) (fun i hi=>?_) (y:=(2,())) (b:=0) ?_ (by omega)).trans ?_
 ·unfold crF
  rw[cr1_eq hN]
  simp only[]
  rw[decide_eq_true (show (i:Int)<2 by omega),cond_true,if_pos ⟨by omega,by omega⟩,Int.toNat_natCast,wrap_next (show i<2 by omega) (by decide)]
  cases rv1 ([A,B].getD i [])<;>rfl
 ·rfl
 ·rw[if_pos rfl]
  show (bif (!rv1 A || (!rv1 B || false)) then _ else _)=_
  unfold rvB
  cases rv1 A
  ·rfl
  cases rv1 B
  ·rfl
  show (bif decide (1≤d) then bif !decide (d≤1000) then k (i1 2) else k (i1 0) else k (i1 2))=k (i1 (bif (decide (1≤d)&&decide (d≤1000)) then 0 else 2))
  cases decide (1≤d)
  ·rfl
  cases decide (d≤1000)<;>rfl
noncomputable def kcrS:Fsp:=fun _ args k=>match args with
 | [.agg [.int .i64 d,.ro (.sl (.int .i64)) A,.ro (.sl (.int .i64)) B]]=>k (i1 (bif rvB (d,A,B) then 0 else 2))
 |_=>none
theorem kcrS_ok:FspOk Tryz.prog 33 kcrS:=tower_Y fsK3_ok spK_ok ⟨Tryz.func33,fun _ _=>by kernel_rfl⟩ (by intro α args k; unfold kcrS; split<;>rfl) fun args out hSm hEq=>by
 unfold kcrS at hEq
 split at hEq
 ·rename_i d A B
  exact⟨12,30,((kcr_text 12 0 AOut d A B some).trans (crT_eq (by decide) d A B some)).trans hEq⟩
 ·cases hEq
/-! States. -/
theorem kcs_text (N n0:Nat) (α:Type) (e l t:Int) (k:AOut→Option α):evFn real tab ((twY fsK3 spK).env real tab N (n0+30)) N Tryz.f21 α [.agg [.int .i64 e,.int .i64 l,.int .i64 t]] k =
 bif decide (0≤e) then bif !decide (e≤12) then k (i1 2) else bif decide (-96≤l) then bif !decide (l≤96) then k (i1 2) else bif decide (0≤t) then bif !decide (t≤1) then k
 (i1 2) else k (i1 0) else k (i1 2) else k (i1 2) else k (i1 2):=by kernel_rfl
theorem hm_dec (t:Int):(decide (0≤t)&&decide (t≤1))=hmB t:=by
 unfold hmB
 rw[Bool.eq_iff_iff,Bool.and_eq_true,Bool.or_eq_true,decide_eq_true_eq,decide_eq_true_eq,beq_iff_eq,beq_iff_eq]
 omega
theorem st_parts {β:Type} (e l t:Int) (X Y:β):(bif decide (0≤e) then bif !decide (e≤12) then X else bif decide (-96≤l) then bif !decide (l≤96) then X else bif decide (0≤t) then bif !decide (t≤1) then X else Y else X else X else X)=bif stB (e,l,t,()) then Y else X:=by
 unfold stB
 rw[←hm_dec]
 simp only[]
 cases decide (0≤e)
 ·rfl
 cases decide (e≤12)
 ·rfl
 cases decide (-96≤l)
 ·rfl
 cases decide (l≤96)
 ·rfl
 cases decide (0≤t)
 ·rfl
 cases decide (t≤1)<;>rfl
noncomputable def kcsS:Fsp:=fun _ args k=>match args with
 | [.agg [.int .i64 e,.int .i64 l,.int .i64 t]]=>k (i1 (bif stB (e,l,t,()) then 0 else 2))
 |_=>none
theorem kcsS_ok:FspOk Tryz.prog 21 kcsS:=tower_Y fsK3_ok spK_ok ⟨Tryz.func21,fun _ _=>by kernel_rfl⟩ (by intro α args k; unfold kcsS; split<;>rfl) fun args out hSm hEq=>by
 unfold kcsS at hEq
 split at hEq
 ·rename_i e l t
  refine⟨12,30,((kcs_text 12 0 AOut e l t some).trans ((st_parts e l t (some (i1 2)) (some (i1 0))).trans ?_)).trans hEq⟩
  cases stB (e,l,t,())<;>rfl
 ·cases hEq
noncomputable def fsK4:FuncId→Option Fsp:=fun g=>
 if g=33 then some kcrS else
 if g=21 then some kcsS else
 fsK3 g
theorem fsK4_ok:FsOk fsK4:=
 fs_cons kcrS_ok <|
 fs_cons kcsS_ok <|
 fsK3_ok
/-! The next state. -/
def ptB (p:Int):Bool:=decide (-8≤p)&&decide (p≤8)
def nnO (e l t p:Int):AOut:=bif stB (e,l,t,())&&ptB p then bif e==0 then .ret (.tup [nxA 0 0 0,.int .i64 9]) else .ret (.tup [nxA (nxE e) (nxL l t p) (nxT t p),.int .i64 0]) else .ret (.tup [nxA 0 0 0,.int .i64 2])
def nnB (e l t p:Int):Bool:=stB (e,l,t,())&&(ptB p&&!(e==0))
def nnE (e l t p:Int):Int:=bif nnB e l t p then nxE e else 0
def nnL (e l t p:Int):Int:=bif nnB e l t p then nxL l t p else 0
def nnT (e l t p:Int):Int:=bif nnB e l t p then nxT t p else 0
def nnR (e l t p:Int):Int:=bif stB (e,l,t,())&&ptB p then bif e==0 then 9 else 0 else 2
theorem nnO_eq (e l t p:Int):nnO e l t p=.ret (.tup [nxA (nnE e l t p) (nnL e l t p) (nnT e l t p),.int .i64 (nnR e l t p)]):=by
 unfold nnO nnE nnL nnT nnR nnB
 cases stB (e,l,t,())
 ·rfl
 cases ptB p
 ·rfl
 cases e==0<;>rfl
theorem knn_text (N n0:Nat) (α:Type) (e l t p:Int) (k:AOut→Option α):evFn real tab ((twY fsK4 spK).env real tab N (n0+30)) N Tryz.f8 α [.agg [.int .i64 e,.int .i64 l,.int .i64 t],.int .i64 p] k =
 bif (bif stB (e,l,t,()) then (0:Int) else 2) != 0 then k (.ret (.tup [nxA 0 0 0,.int .i64 2])) else bif decide (-8≤p) then bif !decide (p≤8) then k (.ret (.tup [nxA 0 0 0,
 .int .i64 2])) else bif e==0 then k (.ret (.tup [nxA 0 0 0,.int .i64 9])) else bif hmB t then k (.ret (.tup [nxA (nxE e) (nxL l t p) (nxT t p),.int .i64 0])) else none else k
 (.ret (.tup [nxA 0 0 0,.int .i64 2])):=by kernel_rfl
noncomputable def knnS:Fsp:=fun _ args k=>match args with
 | [.agg [.int .i64 e,.int .i64 l,.int .i64 t],.int .i64 p]=>k (.ret (.tup [nxA (nnE e l t p) (nnL e l t p) (nnT e l t p),.int .i64 (nnR e l t p)]))
 |_=>none
theorem stB_hm {e l t:Int} (h:stB (e,l,t,())=true):hmB t=true:=by
 unfold stB at h
 simp only[Bool.and_eq_true] at h
 exact h.2.2
theorem knnS_ok:FspOk Tryz.prog 8 knnS:=tower_Y fsK4_ok spK_ok ⟨Tryz.func8,fun _ _=>by kernel_rfl⟩ (by intro α args k; unfold knnS; split<;>rfl) fun args out hSm hEq=>by
 unfold knnS at hEq
 split at hEq
 ·rename_i e l t p
  replace hEq:=(congrArg some (nnO_eq e l t p)).trans hEq
  refine⟨12,30,((knn_text 12 0 AOut e l t p some).trans ?_).trans hEq⟩
  unfold nnO ptB
  cases hs:stB (e,l,t,())
  ·rfl
  show (bif decide (-8≤p) then bif !decide (p≤8) then _ else bif e==0 then _ else bif hmB t then _ else none else _)=_
  rw[stB_hm hs]
  cases decide (-8≤p)
  ·rfl
  cases decide (p≤8)
  ·rfl
  show _=some (bif e==0 then _ else _)
  cases e==0<;>rfl
 ·cases hEq
noncomputable def fsK5:FuncId→Option Fsp:=fun g=>
 if g=8 then some knnS else
 fsK4 g
theorem fsK5_ok:FsOk fsK5:=
 fs_cons knnS_ok <|
 fsK4_ok
def rsB (d:Int) (A B:List (List Int)) (e l t:Int):Bool:=rvB (d,A,B)&&stB (e,l,t,())
theorem rs_parts {β:Type} (d:Int) (A B:List (List Int)) (e l t:Int) (X Y:β):(bif (bif rvB (d,A,B) then (0:Int) else 2)==0 then bif !(bif stB (e,l,t,()) then (0:Int) else 2)==0 then X else Y else X)=bif rsB d A B e l t then Y else X:=by
 unfold rsB
 cases rvB (d,A,B)
 ·rfl
 cases stB (e,l,t,())<;>rfl
theorem hpD_nil {d:Int} {A B:List (List Int)} {s:GsI} (hr:rvB (d,A,B)=true) (hs:stB s=true) {M:MpI} (hg:gdB (d,A,B) M=true):hpD 13 (d,A,B) s M=true:=by
 unfold hpD
 rw[hr,hs,hg,decide_eq_true (show s.1<((13:Nat):Int) by have:=(stB_in hs).1; omega)]
 rfl
/-! Value. -/
def vaO' (d:Int) (A B:List (List Int)) (e l t:Int):AOut:=bif rsB d A B e l t then .ret (.tup [hpA (hv (d,A,B) (e,l,t,())).1 (hv (d,A,B) (e,l,t,())).2.1,.int .i64 0]) else .ret (.tup [hpA 0 0,.int .i64 2])
def rsE (d:Int) (A B:List (List Int)) (e l t:Int):Int:=bif rsB d A B e l t then 0 else 2
def vaL (d:Int) (A B:List (List Int)) (e l t:Int):Int:=bif rsB d A B e l t then (hv (d,A,B) (e,l,t,())).1 else 0
def vaH (d:Int) (A B:List (List Int)) (e l t:Int):Int:=bif rsB d A B e l t then (hv (d,A,B) (e,l,t,())).2.1 else 0
theorem vaO_eq (d:Int) (A B:List (List Int)) (e l t:Int):vaO' d A B e l t=.ret (.tup [hpA (vaL d A B e l t) (vaH d A B e l t),.int .i64 (rsE d A B e l t)]):=by
 unfold vaO' rsE vaL vaH
 cases rsB d A B e l t<;>rfl
theorem kva_text (N n0:Nat) (α:Type) (d:Int) (A B:List (List Int)) (e l t:Int) (k:AOut→Option α):evFn real tab ((twY fsK5 spK).env real tab N (n0+30)) N Tryz.f9 α [.agg [.int .i64 d,.ro LsSh A,.ro LsSh B],.agg [.int .i64 e,.int .i64 l,.int .i64 t]] k =
 bif (bif rvB (d,A,B) then (0:Int) else 2)==0 then bif !(bif stB (e,l,t,()) then (0:Int) else 2)==0 then k (.ret (.tup [hpA 0 0,.int .i64 2])) else bif hpD 13 (d,A,B)
 (e,l,t,()) [] then k (.ret (.tup [hpA (hv (d,A,B) (e,l,t,())).1 (hv (d,A,B) (e,l,t,())).2.1,.int .i64 0])) else none else k (.ret (.tup [hpA 0 0,.int .i64 2])):=by
 kernel_rfl
noncomputable def kvaS:Fsp:=fun _ args k=>match args with
 | [.agg [.int .i64 d,.ro (.sl (.int .i64)) A,.ro (.sl (.int .i64)) B],.agg [.int .i64 e,.int .i64 l,.int .i64 t]]=>k (.ret (.tup [hpA (vaL d A B e l t) (vaH d A B e l t),.int .i64 (rsE d A B e l t)]))
 |_=>none
theorem kvaS_ok:FspOk Tryz.prog 9 kvaS:=tower_Y fsK5_ok spK_ok ⟨Tryz.func9,fun _ _=>by kernel_rfl⟩ (by intro α args k; unfold kvaS; split<;>rfl) fun args out hSm hEq=>by
 unfold kvaS at hEq
 split at hEq
 ·rename_i d A B e l t
  replace hEq:=(congrArg some (vaO_eq d A B e l t)).trans hEq
  refine⟨20,30,((kva_text 20 0 AOut d A B e l t some).trans ((rs_parts d A B e l t _ _).trans ?_)).trans hEq⟩
  unfold vaO'
  cases hr:rsB d A B e l t
  ·rfl
  unfold rsB at hr
  rw[Bool.and_eq_true] at hr
  rw[hpD_nil hr.1 hr.2 rfl]
  rfl
 ·cases hEq
/-! Blank. -/
/-! The best one. -/
def beF {α:Type} (q:HpI→HpI→Bool) (H:List HpI) (x:Int × Int × Unit):Option (LRes (Int × Int × Unit) α):=
 bif decide (x.2.1<(H.length:Int)) then
  if 0≤x.2.1∧x.2.1<(H.length:Int) then if 0≤x.1∧x.1<(H.length:Int) then
   bif q (H.getD x.2.1.toNat (0,0,())) (H.getD x.1.toNat (0,0,())) then some (.cont (x.2.1,IntKind.i64.wrap (x.2.1+1),())) else some (.cont (x.1,IntKind.i64.wrap (x.2.1+1),()))
  else none else none
 else some (.brk 0 (x.1,x.2.1,()))
noncomputable def fsK6:FuncId→Option Fsp:=fun g=>
 if g=9 then some kvaS else
 fsK5 g
theorem fsK6_ok:FsOk fsK6:=
 fs_cons kvaS_ok <|
 fsK5_ok
noncomputable def fsK7:FuncId→Option Fsp:=fun g=>
 fsK6 g
theorem fsK7_ok:FsOk fsK7:=
 fsK6_ok
/-! Roots, open to evaluation. -/
def rtUpC (a how:Int):Bool:=if how=2 then !(rtC a*rtC a==a) else if how=3 then decide ((2*rtC a+1)*(2*rtC a+1)≤4*a) else false
def rtNC (a how:Int):Int:=rtC a+(bif rtUpC a how then 1 else 0)
def rootVC (a how:Int):Int:=bif rootB a how then (bif ngB a then 0 else fxV false (rtNC (a*65536) how)) else 0
def rootEC (a how:Int):Int:=bif rootB a how then (bif ngB a then 11 else fxE (rtNC (a*65536) how)) else 2
def frootCS:Fsp:=fun _ args k=>match args with
 | [.int .i64 x,.int .i64 how]=>k (i2 (rootVC x how) (rootEC x how))
 |_=>none
theorem frootCS_ok:FspOk Tryz.prog 10 frootCS:=by
 have e:frootCS=frootS:=by
  unfold frootCS frootS rootVC rootEC rtNC rtUpC rootV rootE rtN rtUp
  rw[rt_C]
  rfl
 rw[e]; exact frootS_ok
noncomputable def fsIa:FuncId→Option Fsp:=fun g=>
 if g=10 then some frootCS else
 fsIt g
theorem fsIa_ok:FsOk fsIa:=
 fs_cons frootCS_ok <|
 fsIt_ok
theorem qsnd_text (α:Type) (k:AOut→Option α):evFn real tab ((twY fsIa spL).env real tab 8 8) 8 Tryz.f5 α [] k=k (b1 true):=by kernel_rfl
noncomputable def qsndS:Fsp:=fun _ args k=>match args with
 | []=>k (b1 true)
 |_=>none
theorem qsndS_ok:FspOk Tryz.prog 5 qsndS:=tower_Y fsIa_ok spL_ok ⟨Tryz.func5,fun _ _=>by kernel_rfl⟩ (by intro α args k; unfold qsndS; split<;>rfl) fun args out hSm hEq=>by
 unfold qsndS at hEq
 split at hEq
 ·exact⟨8,8,(qsnd_text AOut some).trans hEq⟩
 ·cases hEq
end Go.Proofs.YtneedmplkodcjaaGreat
namespace Go.Proofs.YtneedmplkodcjaaGreat
def sel2 {β:Type} (A B:β) {α:Type} (x:Int) (f:β→Option α):Option α:=
 if 0≤x∧x<((2:Nat):Int) then bif x==((0:Nat):Int) then f A else bif x==((0+1:Nat):Int) then f B else none else none
theorem sel2_eq {β:Type} (A B:β) {α:Type} (i:Nat) (hi:i<2) (f:β→Option α):sel2 A B (i:Int) f=f ([A,B].getD i A):=by
 match i,hi with
 |0,_=>rfl
 |1,_=>rfl
open Go.RowKit
noncomputable def fsK8:FuncId→Option Fsp:=fun g=>
 fsK7 g
theorem fsK8_ok:FsOk fsK8:=
 fsK7_ok
/-! Great -/
def grI {α:Type} (A B:List (List Int)) (t:Int) (R:Option α) (x:Int × Unit):Option (LRes (Int × Unit) α):=
 sel2 A B t fun L=>bif decide (x.1<(L.length:Int)) then sel2 A B t fun L=>if 0≤x.1∧x.1<(L.length:Int) then bif decide (((L.getD x.1.toNat []).length:Int)>60) then finL R else some (.cont (IntKind.i64.wrap (x.1+1),())) else none else some (.brk 2 (x.1,()))
def grR {α:Type} (N:Nat) (A B:List (List Int)) (t:Int) (R E:Option α):Option α:=
 sel2 A B t fun L=>bif decide ((L.length:Int)>9) then R else afterL (iterL N (grI A B t R) (0,())) fun id _=>if id=2 then E else none
def grF {α:Type} (N:Nat) (A B:List (List Int)) (R:Option α) (x:Int × Unit):Option (LRes (Int × Unit) α):=
 bif decide (x.1<2) then sel2 A B x.1 fun L=>bif decide ((L.length:Int)>3) then sel2 A B x.1 fun L=>bif decide ((L.length:Int)≤8) then finL R else grR N A B x.1 (finL R) (some (.cont (IntKind.i64.wrap (x.1+1),()))) else grR N A B x.1 (finL R) (some (.cont (IntKind.i64.wrap (x.1+1),())))
 else some (.brk 0 (x.1,()))
set_option maxRecDepth 100000 in
theorem grt_text (N n0:Nat) (α:Type) (d:Int) (A B:List (List Int)) (k:AOut→Option α):evFn real tab ((twY fsK8 spK).env real tab N (n0+30)) N Tryz.f4 α [.agg [.int .i64 d,.ro LsSh A,.ro LsSh B]] k=afterL (iterL N (grF N A B (k (b1 true))) (0,())) fun id _=>if id=0 then k (b1 false) else none:=by kernel_rfl
def gr1 (L:List (List Int)):Bool:=(decide (3<L.length)&&decide (L.length≤8)) || (decide (9<L.length) || L.any fun c=>decide (60<c.length))
def grB (A B:List (List Int)):Bool:=gr1 A || gr1 B
theorem grR_eq {α:Type} {N:Nat} (hN:12<N) (A B:List (List Int)) (i:Nat) (hi:i<2) (R E:Option α):grR N A B (i:Int) R E=bif decide (9<([A,B].getD i A).length) || ([A,B].getD i A).any (fun c=>decide (60<c.length)) then R else E:=by
 unfold grR
 rw[sel2_eq A B i hi]
 generalize hL:[A,B].getD i A=L
 by_cases h9:9<L.length
 ·rw[decide_eq_true (show (L.length:Int)>9 by omega),decide_eq_true h9]; rfl
 rw[decide_eq_false (show ¬(L.length:Int)>9 by omega),decide_eq_false h9,cond_false,Bool.false_or]
 have hmx:L.length≤maxLen:=by have:maxLen=9223372036854775807:=rfl; omega
 refine (any_loop' (f:=grI A B (i:Int) R) (fun j:Nat=>((j:Int),())) L.length (fun j=>decide (60<(L.getD j []).length)) R (fun j hj=>?_) (y:=((L.length:Int),())) (b:=2) ?_ (by omega)).trans ?_
 ·unfold grI
  rw[sel2_eq A B i hi,sel2_eq A B i hi,hL]
  simp only[lt_len hj,cond_true,in_len hj,if_pos,and_self,decide_true,Int.toNat_natCast,wrap_next hj hmx]
  rw[show decide (((L.getD j []).length:Int)>60)=decide (60<(L.getD j []).length) from decide_eq_decide.2 (by omega)]
 ·unfold grI
  rw[sel2_eq A B i hi,hL]
  simp only[not_lt_len,cond_false]
 ·rw[if_pos rfl,any_rangeX L [] fun c=>decide (60<c.length)]
theorem gr_plain {α:Type} {N:Nat} (hN:12<N) (A B:List (List Int)) (k:AOut→Option α):(afterL (iterL N (grF N A B (k (b1 true))) (0,())) fun id _=>if id=0 then k (b1 false) else none)=k (b1 (grB A B)):=by
 refine (any_loop' (f:=grF N A B (k (b1 true))) (fun i:Nat=>((i:Int),())) 2 (fun i=>gr1 ([A,B].getD i A)) (k (b1 true)) (fun i hi=>?_) (y:=(2,())) (b:=0) ?_ (by omega)).trans ?_
 ·unfold grF
  simp only[]
  rw[decide_eq_true (show (i:Int)<2 by omega),cond_true,sel2_eq A B i hi,sel2_eq A B i hi,grR_eq hN A B i hi,wrap_next (show i<2 by omega) (by decide)]
  unfold gr1
  generalize [A,B].getD i A=L
  rw[show decide ((L.length:Int)>3)=decide (3<L.length) from decide_eq_decide.2 (by omega),show decide ((L.length:Int)≤8)=decide (L.length≤8) from decide_eq_decide.2 (by omega)]
  cases decide (3<L.length)
  ·cases decide (9<L.length) || L.any fun c=>decide (60<c.length)<;>rfl
  cases decide (L.length≤8)
  ·cases decide (9<L.length) || L.any fun c=>decide (60<c.length)<;>rfl
  ·rfl
 ·rfl
 ·rw[if_pos rfl]
  show (bif (gr1 A || (gr1 B || false)) then _ else _)=_
  unfold grB
  cases gr1 A
  ·cases gr1 B<;>rfl
  ·rfl
noncomputable def grtS:Fsp:=fun _ args k=>match args with
 | [.agg [.int .i64 _,.ro (.sl (.int .i64)) A,.ro (.sl (.int .i64)) B]]=>k (b1 (grB A B))
 |_=>none
theorem grtS_ok:FspOk Tryz.prog 4 grtS:=tower_Y fsK8_ok spK_ok ⟨Tryz.func4,fun _ _=>by kernel_rfl⟩ (by intro α args k; unfold grtS; split<;>rfl) fun args out hSm hEq=>by
 unfold grtS at hEq
 split at hEq
 ·rename_i d A B
  exact⟨20,30,((grt_text 20 0 AOut d A B some).trans (gr_plain (by decide) A B some)).trans hEq⟩
 ·cases hEq
end Go.Proofs.YtneedmplkodcjaaGreat
