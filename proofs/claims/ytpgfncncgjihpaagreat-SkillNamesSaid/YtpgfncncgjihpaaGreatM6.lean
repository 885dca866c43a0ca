/- Parts of the proof, in build order. -/
import Derived.Test.YtpgfncncgjihpaaGreatM5
import Derived.Test.YtpgfncncgjihpaaGreatProg
import Derived.WalkKit
import Derived.WalkSpells
import Derived.WalkLawsBesides
import Derived.Defers
import Derived.Recover
import Derived.Below
import Derived.RegionTactic
import Derived.ChangeAlike
import Derived.Outline
import Derived.Shelf.Abstract
import Derived.Lib.Hide
import Derived.StillTailTactics
import Derived.Test.YtpgfncncgjihpaaGreatM1
import Derived.Lib.Mul64
import Derived.Lib.BitFns
import Derived.Lib.Strings
import Derived.Lib.Slices
import Derived.Lib.Small
import Derived.Lib.Walk
import Derived.Laws.Bits64b
import Derived.Laws.Externs
import Derived.Deep.QuietTactic
import Derived.BigQuiet
import Derived.LoopTactic
import Derived.Laws.BitsAllLaws
import Derived.Deep.DeepCutAuto
import Derived.Deep.CutBlock
import Derived.Deep.CutRange
import Derived.Deep.LoopGhost
import Derived.Deep.RegionHeld3
namespace Go.Proofs.YtpgfncncgjihpaaGreat
open Go.RowKit
structure CvAt (P:Program) (cv:Cv) (v:AVal):Prop where
 nat:∀(α:Type) args h (k:AExit→AVal→List ABlk→Option α),cv α v args h k=(cv _ v args h tripE).bind fun p=>k p.1 p.2.1 p.2.2
 ok:∀args h x u h1,cv _ v args h tripE=some (x,u,h1)→∀(K:Nat→Prop) g w (fv:Value) (cargs:Array Value),St K h g w→Rep h g w v fv→args.length=cargs.size →
  (∀(j:Nat) c z,args[j]?=some c→cargs[j]?=some z→Rep h g w c z)→CallV P fv cargs w (CvPost K h g w h1 x u)
theorem cv_of {P:Program} {cv:Cv} (h:∀v,CvAt P cv v):CvOk P cv:=⟨fun α v=>(h v).nat α,fun v=>(h v).ok⟩
theorem CvPost.drop {K h g w h1 x u e w'} (p:CvPost K h g w h1 x u e w') (keep:List Nat):CvPost K h g w (dropH keep h.length 0 h1) x u e w':=by
 obtain⟨g',s1,l1,hx⟩:=p
 have al:=drop_alike keep h.length h1
 refine⟨g',al.st s1,drop_le keep l1,?_⟩
 cases x with
 |normal=>obtain⟨z,h1,h2⟩:=hx; exact⟨z,h1,al.rep h2⟩
 |pan v=>obtain⟨z,h1,h2⟩:=hx; exact⟨z,h1,al.rep h2⟩
 |exit i=>exact hx
 |ret=>exact hx
theorem setTmps_rep {h g w}:∀(ps:List Nat) (args:List AVal) (cargs:List Value) (ts:List AVal) (tmps:Array Value),args.length=cargs.length→TRep h g w ts tmps →
  (∀(j:Nat) c z,args[j]?=some c→cargs[j]?=some z→Rep h g w c z)→TRep h g w (setTmps ts ps args) ((ps.zip cargs).foldl (fun tmps (t,a)=>tmps.setIfInBounds t a) tmps)
 | [],args,cargs,ts,tmps,_,ht,_=>by
   have:setTmps ts [] args=ts:=by cases args<;>rfl
   rw[this]; exact ht
 |p::ps,[],cargs,ts,tmps,hl,ht,_=>by
  have:cargs=[]:=List.eq_nil_of_length_eq_zero (by simpa using hl.symm)
  subst this
  exact ht
 |p::ps,a::args,[],ts,tmps,hl,ht,_=>by simp at hl
 |p::ps,a::args,z::cargs,ts,tmps,hl,ht,hr=>by
  simp only[setTmps,List.zip_cons_cons,List.foldl_cons]
  refine setTmps_rep ps args cargs _ _ (by simpa using hl) ?_ fun j c z' h1 h2=>hr (j+1) c z' (by simpa using h1) (by simpa using h2)
  have:=TRep.put (s:=⟨ts,h⟩) (a:={ tmps:=tmps,defers:=[] }) ht (some p) (hr 0 a z rfl rfl)
  exact this
section
variable {P:Program} {T:Tab} {env:Env}
theorem round_nat (hE:EnvOk P env) (N:Nat) (i:Nat) {α:Type} (args:List AVal) (h:List ABlk) (k:AExit→AVal→List ABlk→Option α) :
  evRound real T env N i args h k=(evRound real T env N i args h tripE).bind fun p=>k p.1 p.2.1 p.2.2:=by
 unfold evRound
 split
 ·rename_i ps asg bo _
  split
  ·cases hasRange asg || hasRange bo
   ·simp only[cond_false]
    refine bind_nat (e:=fun k=>ev real T env N asg _ k) (fun k=>ev_nat hE N asg _ k) (fun p:AExit × AVal × List ABlk=>k p.1 p.2.1 p.2.2) fun x s'=>?_
    cases x with
    |normal=>
     simp only
     split
     ·rename_i pend tmps ps' asg' bo' _
      refine bind_nat (e:=fun k=>ev real T env N bo _ k) (fun k=>ev_nat hE N bo _ k) (fun p:AExit × AVal × List ABlk=>k p.1 p.2.1 p.2.2) fun x s'=>?_
      split
      ·cases x<;>rfl
      ·rfl
     ·rfl
    |exit i=>rfl
    |ret=>rfl
    |pan v=>rfl
   ·rfl
  ·rfl
 ·rfl
theorem round_ok (hm:P.follows .mixedOrders=true) (hT:TabOk P T) (hE:EnvOk P env) (N:Nat) (i:Nat) {args:List AVal} {h h1:List ABlk} {x:AExit} {u:AVal} (hk:evRound real T env N i args h tripE=some (x,u,h1))
  {K:Nat→Prop} {g:Gh} {w:World} {fv:Value} {cargs:Array Value} (hs:St K h g w) (hv:Rep h g w (.yld i) fv) (hl:args.length=cargs.size) (hr:∀(j:Nat) c z,args[j]?=some c→cargs[j]?=some z→Rep h g w c z):CallV P fv cargs w (CvPost K h g w h1 x u):=by
 unfold evRound at hk
 split at hk
 case h_2=>cases hk
 rename_i st0 pend ts ps asg bo hh
 have hi:=getD_some (by simp) hh
 split at hk
 case isFalse=>cases hk
 rename_i hlen
 cases hrg:hasRange asg || hasRange bo
 case true=>rw[hrg] at hk; cases hk
 rw[hrg] at hk
 simp only[cond_false] at hk
 simp only[Bool.or_eq_false_iff] at hrg
 obtain⟨hr1,hr2⟩:=hrg
 obtain⟨l,arr,fn,Dd,d1,d2,d3,d4,hF⟩:=hs.blk i _ hi
 have hfv:fv=.func (.yield l) #[] #[]:=by
  cases hv with
  |yld _ _ _ _ h3=>rw[h3 _ _ _ _ _ _ hi,d1]
 have hy:=run_yield (P:=P) (args:=cargs) d2 (by simp; omega)
 refine .inr (.inl ⟨l,_,_,_,_,hfv,hy,?_⟩)
 obtain⟨y,s2,e1,e2⟩:=ev_pair hE hk
 have ht0:TRep h g w (setTmps ts ps args) ((ps.toArray.zip cargs).foldl (fun tmps (t,a)=>tmps.setIfInBounds t a) arr):=by
  have:=setTmps_rep (h:=h) (g:=g) (w:=w) ps args cargs.toList ts arr (by simpa using hl) ⟨d3.symm,d4⟩ (fun j c z hc hz=>hr j c z hc (by simpa using hz))
  rw[←Array.foldl_toList]
  simpa using this
 obtain⟨fnc,hfnc⟩:=hF
 refine round_of_wpB (fn:=fnc) (by rw[hT.pr]; exact hfnc) fun b hbf hbr=>?_
 have hxb:FnIn b.fn:=⟨fnc,by rw[hbf]; exact hfnc⟩
 have hnn:b.roundOf=none→False:=fun h=>by rw[hbr] at h; cases h
 refine ev_wp (K0:=fun _=>True) hm hT hE hxb N asg _ y s2 _ w g K _ (fun h=>(hnn h).elim) (fun _=>hr1) e1 hs ht0 MRep.nil ⟨fun K1 g1 a1 w1 e kk i1 i2 i3 i4 i5=>?_⟩
 cases y with
 |exit j=>cases e2
 |ret=>cases e2
 |pan v=>cases e2
 |normal=>
  rw[xr_normal i5]
  simp only at e2
  split at e2
  case h_2=>cases e2
  rename_i pend2 ts2 ps2 asg2 bo2 hh2
  have hi2:=getD_some (by simp) hh2
  have same2:ts2=ts∧ps2=ps∧asg2=asg∧bo2=bo∧g1.ρ i=g.ρ i:=by
   obtain⟨_,_,q1,q2⟩:=i2.lp i _ _ _ _ _ _ (Here.of hi (by simp)) hi2
   rw[hi] at q1
   cases q1
   exact⟨rfl,rfl,rfl,rfl,q2⟩
  obtain⟨rfl,rfl,rfl,rfl,hρ1⟩:=same2
  obtain⟨l1,r1,f1,f2,f3,f4,f5,f6,f7,f8,l12,s12⟩:=lp_set i1 hi2 .busy pend2
  have hl1:l1=l:=by rw[hρ1,d1] at f1; cases f1; rfl
  subst hl1
  have hrec:({ r1 with state:=.busy,pending:=pend2 }:Loop)={ r1 with state:=.busy }:=by cases r1; simp_all
  rw[hrec] at l12 s12
  refine⟨_,run_beginRound f2 f3,?_⟩
  obtain⟨y3,s3,e3,e4⟩:=ev_pair hE e2
  refine ev_wp (K0:=fun _=>True) hm hT hE hxb N bo2 _ y3 s3 a1 _ g1 K1 _ (fun h=>(hnn h).elim) (fun _=>hr2) e3 s12 (i3.mono l12) (i4.mono l12) ⟨fun K2 g3 a3 w3 e' kk2 j1 j2 j3 j4 j5=>?_⟩
  split at e4
  case h_2=>cases e4
  rename_i st4 pend4 ts4 ps4 asg4 bo4 hh4
  have hi4:=getD_some (by simp) hh4
  have hρ3:g3.ρ i=g.ρ i:=by
   have hlt:i<s2.heap.length:=(List.getElem?_eq_some_iff.1 hi2).1
   obtain⟨_,_,_,q2⟩:=j2.lp i _ _ _ _ _ _ (Here.of (b:=.lp .busy pend2 ts2 ps2 asg2 bo2) (by simp only; rw[List.getElem?_set,if_pos rfl,if_pos hlt]) (by simp)) hi4
   rw[q2,hρ1]
  -- behind the round
  have fin:∀(st5:LoopState) (p5:Option Code) (b:Bool),st5=(if p5.isNone then .ready else .done)→b=p5.isNone→tripE .normal (.bool b) (s3.heap.set i (.lp st5 p5 ts4 ps4 asg4 bo4))=some (x,u,h1) →
    ∃v w',(Instr.endRound l1 p5).run P w3=.ok v w'∧CvPost K h g w h1 x u (.returned v) w':=fun st5 p5 b hst hb he=>by
   obtain⟨l3,r3,g31,g32,g33,_,_,_,_,_,l34,s34⟩:=lp_set j1 hi4 st5 p5
   have hl3:l3=l1:=by rw[hρ3,d1] at g31; cases g31; rfl
   subst hl3
   cases he
   refine⟨_,_,run_endRound p5 g32,g3,?_,?_,.bool p5.isNone,rfl,by rw[hb]; exact .bool _⟩
   ·rw[←hst]; exact s34.less fun b hb=>kk2 b (kk b hb)
   ·rw[←hst]
    exact ((i2.trans (l12.less kk)).trans (j2.less kk)).trans (l34.less fun b hb=>kk2 b (kk b hb))
  cases y3 with
  |normal=>
   rw[xr_normal j5]
   exact fin .ready none true rfl rfl e4
  |ret=>
   rw[xr_ret j5]
   exact fin .done (some .ret) false rfl rfl e4
  |exit id=>
   rw[xr_exit j5]
   exact fin .done (some (.exit id)) false rfl rfl e4
  |pan v=>
   cases e4
   obtain⟨rs,_,r2,r3⟩:=j4
   have hd:a3.defers=[]:=by
    cases rs with
    |nil=>exact r2
    |cons q _=>exact absurd trivial (r3 q (List.mem_cons_self ..)).2.1
   cases e' with
   |panic ch=>
    obtain⟨z,rfl,hz⟩:=j5
    exact⟨hd,g3,j1.less fun b hb=>kk2 b (kk b hb),((i2.trans (l12.less kk)).trans (j2.less kk)),z,rfl,hz⟩
   |_=>cases j5
structure FnOk (P:Program) (f:FuncId) (fn:Func):Prop where
 get:P.funcs[f]?=some fn
 enter:∀args w,(callFunc f args).run P w=.ok (.enter f args) w
structure TwOk (P:Program) (tw:Tower):Prop where
 fs:∀f S,tw.fs f=some S→FspOk P f S
 sp:∀f S,tw.sp f=some S→∀cv,CvOk P cv→∀caps,CvAt P (S cv) (.fn f caps)
 fn:∀f fn,tw.fn f=some fn→FnOk P f fn
theorem args_caps {h g w} {args caps:List AVal} {cargs carr:Array Value} (hl:args.length=cargs.size) (hcl:caps.length=carr.size) (hr:∀(j:Nat) c z,args[j]?=some c→cargs[j]?=some z→Rep h g w c z) (hcr:∀(j:Nat) c z,caps[j]?=some c→carr[j]?=some z→Rep h g w c z) :
  (args++caps).length=(cargs++carr).size∧∀(j:Nat) c z,(args++caps)[j]?=some c→(cargs++carr)[j]?=some z→Rep h g w c z:=by
 refine⟨by simp[hl,hcl],fun j c z hc hz=>?_⟩
 rcases Nat.lt_or_ge j args.length with hj|hj
 ·rw[List.getElem?_append_left hj] at hc
  rw[Array.getElem?_append_left (by omega)] at hz
  exact hr j c z hc hz
 ·rw[List.getElem?_append_right hj] at hc
  rw[Array.getElem?_append_right (by omega),←hl] at hz
  exact hcr _ c z hc hz
theorem none_at {cv:Cv} {v:AVal} (h:∀(α:Type) args hp (k:AExit→AVal→List ABlk→Option α),cv α v args hp k=none):CvAt P cv v:=⟨fun α args hp k=>by rw[h,h]; rfl,fun args hp x u h1 hk=>by rw[h] at hk; cases hk⟩
theorem tower_cv {tw:Tower} (hm:P.follows .mixedOrders=true) (hT:TabOk P T) (ht:TwOk P tw) (N:Nat):∀n,CvOk P (cvN real T tw N n)
 |0=>cv_of fun v=>none_at fun _ _ _ _=>rfl
 |n+1=>cv_of fun v=>by
  have ih:=tower_cv hm hT ht N n
  have hE:EnvOk P { fs:=tw.fs,pr:=tw.pr,cv:=cvN real T tw N n }:=⟨ht.fs,ih⟩
  cases v with
  |fn f caps=>
   cases hsp:tw.sp f with
   |some S=>
    have e:∀(α:Type) args hp (k:AExit→AVal→List ABlk→Option α),cvN real T tw N (n+1) α (.fn f caps) args hp k=S (cvN real T tw N n) α (.fn f caps) args hp k:=fun α args hp k=>by simp only[cvN,hsp]
    have:=ht.sp f S hsp _ ih caps
    exact⟨fun α args hp k=>by rw[e,e]; exact this.nat α args hp k,fun args hp x u h1 hk=>by rw[e] at hk; exact this.ok args hp x u h1 hk⟩
   |none=>
    cases hfs:(bif Env.inn { fs:=tw.fs,pr:=tw.pr,cv:=fun _ _ _ _ _=>none } f then none else tw.fs f) with
    |some S=>
     have e:∀(α:Type) args hp (k:AExit→AVal→List ABlk→Option α),cvN real T tw N (n+1) α (.fn f caps) args hp k=evPure S false false (args++caps) hp k:=fun α args hp k=>by simp only[cvN,hsp,hfs]
     have hok:=ht.fs f S (by cases hin:Env.inn { fs:=tw.fs,pr:=tw.pr,cv:=fun _ _ _ _ _=>none } f<;>rw[hin] at hfs<;>first|exact hfs|cases hfs)
     refine⟨fun α args hp k=>by rw[e,e]; exact evPure_nat hok ..,fun args hp x u h1 hk K g w fv cargs hs hv hl hr=>?_⟩
     rw[e] at hk
     cases hv with
     |fn _ _ arr a1 a2=>
      obtain⟨b1,b2⟩:=args_caps hl a1 hr a2
      exact .inl ⟨f,arr,rfl,fun w=>hok.enter _ w,pure_calls hok hs false false _ _ b1 b2 hk⟩
    |none=>
     cases hfn:tw.fn f with
     |none=>exact none_at fun _ _ _ _=>by simp only[cvN,hsp,hfs,hfn]
     |some fn=>
      have e:∀(α:Type) args hp (k:AExit→AVal→List ABlk→Option α),cvN real T tw N (n+1) α (.fn f caps) args hp k=evBody real T { fs:=tw.fs,pr:=tw.pr,cv:=cvN real T tw N n } N fn (args++caps) hp fun x v h'=>k x v (dropH (keepB h' hp.length v) hp.length 0 h'):=fun α args hp k=>by simp only[cvN,hsp,hfs,hfn]
      have hok:=ht.fn f fn hfn
      refine⟨fun α args hp k=>?_,fun args hp x u h1 hk K g w fv cargs hs hv hl hr=>?_⟩
      ·rw[e,e,body_nat hE N fn (args++caps) hp (fun x v h'=>k x v (dropH (keepB h' hp.length v) hp.length 0 h')),body_nat hE N fn (args++caps) hp (fun x v h'=>tripE x v (dropH (keepB h' hp.length v) hp.length 0 h'))]
       cases evBody real T { fs:=tw.fs,pr:=tw.pr,cv:=cvN real T tw N n } N fn (args++caps) hp tripE<;>rfl
      ·rw[e,body_nat hE] at hk
       cases hq:evBody real T { fs:=tw.fs,pr:=tw.pr,cv:=cvN real T tw N n } N fn (args++caps) hp tripE with
       |none=>rw[hq] at hk; cases hk
       |some p=>
        obtain⟨x',u',h'⟩:=p
        rw[hq] at hk
        cases hk
        cases hv with
        |fn _ _ arr a1 a2=>
         obtain⟨b1,b2⟩:=args_caps hl a1 hr a2
         exact .inl ⟨f,arr,rfl,fun w=>hok.enter _ w,(body_calls hm hT hE N hok.get hq hs b1 b2).mono fun e w' hp=>hp.drop _⟩
  |yld i=>
   exact⟨fun α args hp k=>round_nat hE N i args hp k,fun args hp x u h1 hk K g w fv cargs hs hv hl hr=>round_ok hm hT hE N i hk hs hv hl hr⟩
  |_=>exact none_at fun _ _ _ _=>rfl
theorem tower_ok {tw:Tower} (hm:P.follows .mixedOrders=true) (hT:TabOk P T) (ht:TwOk P tw) (N n:Nat):EnvOk P (tw.env real T N n):=⟨ht.fs,tower_cv hm hT ht N n⟩
end
structure Exd (n D:Nat) (w w':World):Prop where
 os:w'.os=w.os
 tape:w'.tape=w.tape
 output:w'.output=w.output
 size:w.heap.size≤w'.heap.size
 block:∀k,k<n→k≠D→w'.heap[k]?=w.heap[k]?
theorem Exd.of {n D:Nat} {w w':World} (h:Below n w w'):Exd n D w w':=⟨h.os,h.tape,h.output,h.size,fun k hk _=>h.block k hk⟩
theorem Exd.trans {n D:Nat} {a b c:World} (h:Exd n D a b) (k:Exd n D b c):Exd n D a c:=
 ⟨k.os.trans h.os,k.tape.trans h.tape,k.output.trans h.output,Nat.le_trans h.size k.size,fun i hi hd=>(k.block i hi hd).trans (h.block i hi hd)⟩
theorem Exd.set {n D:Nat} {w:World} (v:Value):Exd n D w (w.setCell ⟨D,0,none⟩ v):=
 ⟨rfl,rfl,rfl,by simp[World.setCell],fun k _ hd=>Below.heap_setCell _ _ _ _ hd⟩
theorem one_kept {w w1:World} {c1:Array Value} {t1:TypeId} (hd:w1.heap[w.heap.size]?=(w.alloc (.cells c1 t1)).heap[w.heap.size]?) :
  (∀i,w1.cell? ⟨w.heap.size,i,none⟩=c1[i]?)∧(∀i,w1.frozen? ⟨w.heap.size,i,none⟩=false):=by
 refine⟨fun i=>?_,fun i=>?_⟩
 ·rw[World.cell?_of_block (w:=w.alloc (.cells c1 t1)) (w':=w1) (a:=⟨w.heap.size,i,none⟩) hd]; simp[go_sem]
 ·rw[World.frozen?_of_block (w:=w.alloc (.cells c1 t1)) (w':=w1) (a:=⟨w.heap.size,i,none⟩) hd]; simp[go_sem]
theorem hidOf {p:Prop} (h:p):Hid p:=h
theorem cellSet {w:World} {a:Addr} {u:Value} (v:Value) (h:w.cell? a=some u):(w.setCell a v).cell? a=some v:=World.cell?_setCell_same w a v h
def coPanic (e:Int):List PanicEntry:=[{ v:=.iface 226 (.agg #[.int .i64 e]),recovered:=false }]
theorem coassert_yes (c:Int) (w:World):(Instr.typeAssert (.iface 226 (.agg #[.int .i64 c])) 20 226 true).run Tryz.prog w=.ok (.tuple #[.agg #[.int .i64 c],.bool true]) w:=by kernel_rfl
theorem coassert_nil (w:World):(Instr.typeAssert .nilIface 20 226 true).run Tryz.prog w=.ok (.tuple #[.agg #[.int .i64 0],.bool false]) w:=by kernel_rfl
theorem cotried1_panic (b:Nat) (x c:Int) (w:World) (hp:w.cell? ⟨b,0,none⟩=some (.int .i64 x)) (fp:w.frozen? ⟨b,0,none⟩=false) (hqb:b<w.heap.size) :
  CallsD Tryz.prog 186 #[.pointer (some ⟨b,0,none⟩)] (.panicking (coPanic c)) w fun e u' w'=>
   e=.returned (.tuple #[])∧u'=.panicking [{ v:=.iface 226 (.agg #[.int .i64 c]),recovered:=true }]∧w'.cell? ⟨b,0,none⟩=some (.int .i64 c)∧Exd w.heap.size b w w':=by
 refine callsD_of_wpS Tryz.func186 rfl fun c₀ cs hu=>?_
 apply wpS_seq
 apply wpS_region
 simp[wpOpsS,go_sem,recoverD,hu,coPanic,Tryz.ntmps186,Exit.thenS,Array.replicate,List.replicate]
 refine wpS_of_wp ?_
 clear hu
 have hta:=fun w=>coassert_yes c w
 have ha:∀o,Below w.heap.size w (w.alloc o):=fun o=>(Below.refl _ _).alloc (Nat.le_refl _) o
 have hp':∀o,(w.alloc o).cell? ⟨b,0,none⟩=some (.int .i64 x):=fun o=>((ha o).cell (p:=⟨b,0,none⟩) hqb).trans hp
 have fp':∀o,(w.alloc o).frozen? ⟨b,0,none⟩=false:=fun o=>((ha o).frozen (p:=⟨b,0,none⟩) hqb).trans fp
 clear ha
 go_wp2
 all_goals
  (try go_big_unhide)
  simp[bodyPostS,results,Tryz.results186,go_sem]
  have hz:(w.setCell ⟨b,0,none⟩ (.int .i64 c)).heap.size=w.heap.size:=by simp[World.setCell]
  have hal:∀o,Below w.heap.size (w.setCell ⟨b,0,none⟩ (.int .i64 c)) ((w.setCell ⟨b,0,none⟩ (.int .i64 c)).alloc o):=fun o=>(Below.refl _ _).alloc (by rw[hz]; exact Nat.le_refl _) o
  refine⟨((hal _).cell (p:=⟨b,0,none⟩) hqb).trans (cellSet _ hp),Exd.trans (b:=w.setCell ⟨b,0,none⟩ (.int .i64 c)) (.set _) (Exd.of (hal _))⟩
theorem cotried1_idle (b:Nat) (w:World) :
  CallsD Tryz.prog 186 #[.pointer (some ⟨b,0,none⟩)] .returning w fun e u' w'=>
   e=.returned (.tuple #[])∧u'=.returning∧Below w.heap.size w w':=by
 refine callsD_of_wpS Tryz.func186 rfl fun c₀ cs hu=>?_
 apply wpS_seq
 apply wpS_region
 simp[wpOpsS,go_sem,recoverD,hu,Tryz.ntmps186,Exit.thenS,Array.replicate,List.replicate]
 refine wpS_of_wp ?_
 have hta:=fun w=>coassert_nil w
 go_wp2
 all_goals
  simp[bodyPostS,results,Tryz.results186,go_sem]
  exact⟨.returning,by cases c₀; simp_all,rfl,(Below.refl _ _).alloc (Nat.le_refl _) _⟩
set_option maxHeartbeats 1000000 in
theorem cotried_ok (K:FuncId) (caps:Array Value) (Q:World→Prop) (he:∀w,(callFunc K caps).run Tryz.prog w=.ok (.enter K caps) w) (w:World)
  (h:∀w1,Below w.heap.size w w1→w.heap.size<w1.heap.size→Calls Tryz.prog K caps w1 fun e w'=>e=.returned (.tuple #[])∧w'.heap[w.heap.size]?=w1.heap[w.heap.size]?∧w1.heap.size≤w'.heap.size∧Q w') :
  Calls Tryz.prog 143 #[.func (.func K) #[] caps] w fun e w'=>e=.returned (.int .i64 0)∧∃w2,Q w2∧Exd w2.heap.size w.heap.size w2 w':=by
 have hmf:∀(fn:Fn) (first cap:Array Value) (w:World),(Instr.makeFunc fn first cap).run Tryz.prog w=.ok (.func fn first cap) w:=fun _ _ _ _=>rfl
 have HH:=hidOf h
 have hcall:∀w,(callFunc K caps).run Tryz.prog w=.ok (.enter K caps) w:=he
 clear h he
 go_enter_defers Tryz.func143,Tryz.ntmps143
 go_wp2_with (go_at_fn K; refine (HH.out _ ((Below.refl _ _).alloc (Nat.le_refl _) _) (by simp)).mono ?_; rintro e w1 ⟨rfl,hb1,hz1,hq⟩; obtain⟨hc1,hf1⟩:=one_kept hb1; have hz:w.heap.size<w1.heap.size:=(by simp at hz1; omega); have hd1:=hc1 0)
 refine leaves_cons (f:=186) (args:=#[.pointer (some ⟨w.heap.size,0,none⟩)]) (by simp) (by simp[go_sem]) ?_
 have hs:(w1.setCell ⟨w.heap.size,0,none⟩ (.int .i64 0)).heap.size=w1.heap.size:=by simp[World.setCell]
 refine (cotried1_idle w.heap.size _).mono ?_
 rintro e u' w2 ⟨rfl,rfl,hb2⟩
 rw[hs] at hb2
 have g1:w2.cell? ⟨w.heap.size,0,none⟩=some (.int .i64 0):=by
  rw[hb2.cell (p:=⟨w.heap.size,0,none⟩) hz]
  exact cellSet _ hd1
 clear HH hcall hmf hc1 hf1 hd1
 simp[Leaves,settle,results,Tryz.results143,go_sem,g1]
 exact⟨w1,hq,Exd.trans (.set _) (Exd.of hb2)⟩
set_option maxHeartbeats 1000000 in
theorem cotried_err (K:FuncId) (caps:Array Value) (c:Int) (Q:World→Prop) (he:∀w,(callFunc K caps).run Tryz.prog w=.ok (.enter K caps) w) (w:World)
  (h:∀w1,Below w.heap.size w w1→w.heap.size<w1.heap.size→Calls Tryz.prog K caps w1 fun e w'=>e=.panicked (coPanic c)∧w'.heap[w.heap.size]?=w1.heap[w.heap.size]?∧w1.heap.size≤w'.heap.size∧Q w') :
  Calls Tryz.prog 143 #[.func (.func K) #[] caps] w fun e w'=>e=.returned (.int .i64 c)∧∃w2,Q w2∧Exd w2.heap.size w.heap.size w2 w':=by
 have hmf:∀(fn:Fn) (first cap:Array Value) (w:World),(Instr.makeFunc fn first cap).run Tryz.prog w=.ok (.func fn first cap) w:=fun _ _ _ _=>rfl
 have HH:=hidOf h
 have hcall:∀w,(callFunc K caps).run Tryz.prog w=.ok (.enter K caps) w:=he
 clear h he
 go_enter_defers Tryz.func143,Tryz.ntmps143
 go_wp2_with (go_at_fn K; refine (HH.out _ ((Below.refl _ _).alloc (Nat.le_refl _) _) (by simp)).mono ?_; rintro e w1 ⟨rfl,hb1,hz1,hq⟩; obtain⟨hc1,hf1⟩:=one_kept hb1; have hz:w.heap.size<w1.heap.size:=(by simp at hz1; omega))
 refine leaves_cons (f:=186) (args:=#[.pointer (some ⟨w.heap.size,0,none⟩)]) (by simp) (by simp[go_sem]) ?_
 refine (cotried1_panic w.heap.size 0 c _ (hc1 0) (hf1 0) hz).mono ?_
 rintro e u' w2 ⟨rfl,rfl,g1,hb2⟩
 clear HH hcall hmf hc1 hf1
 simp[Leaves,settle,results,Tryz.results143,go_sem,g1]
 exact⟨w1,hq,hb2⟩
theorem le_exd {K K2:Nat→Prop} {h g} {w w':World} {D:Nat} (s:St K2 h g w) (hM:∀b,g.M b→b≠D) (hK:∀b,K b→b≠D∧K2 b) (e:Exd w.heap.size D w w'):Le K h g w h g w' where
 len:=Nat.le_refl _
 here:=fun _ h=>h
 m:=fun _ h=>h
 new:=fun _ h=>.inl h
 mw:=fun b hb=>e.block b (s.low b hb) (hM b hb)
 k:=fun b hb=>e.block b (s.klow b (hK b hb).2) (hK b hb).1
 box:=fun _ wr cs' _ h=>⟨wr,cs',h,rfl,rfl⟩
 row:=fun _ wr _ _ xs' _ h=>⟨wr,xs',h,fun _=>rfl,rfl⟩
 lp:=fun _ st pend _ _ _ _ _ h=>⟨st,pend,h,rfl⟩
 lockb:=fun _ _ h=>h
 lockr:=fun _ _ _ _ h=>h
 os:=e.os
 tape:=e.tape
 output:=e.output
 size:=e.size
theorem st_exd {K K2:Nat→Prop} {h g} {w w':World} {D:Nat} (s:St K2 h g w) (hD:K2 D) (hM:∀b,g.M b→b≠D) (hK:∀b,K b→b≠D∧K2 b) (e:Exd w.heap.size D w w'):St K h g w' where
 blk:=fun i b hb=>(s.blk i b hb).mono (le_exd s hM hK e) rfl fun n hd hn=>by
  obtain⟨h1,h2,h3⟩:=s.sep i n ⟨b,hb,hd⟩ hn
  exact e.block n h3 fun e'=>h1 (by rw[e']; exact hD)
 inj:=s.inj
 sep:=fun i n ai hn=>by
  obtain⟨h1,h2,h3⟩:=s.sep i n ai hn
  exact⟨fun hk=>h1 (hK n hk).2,h2,Nat.lt_of_lt_of_le h3 e.size⟩
 low:=fun b hb=>Nat.lt_of_lt_of_le (s.low b hb) e.size
 klow:=fun b hb=>Nat.lt_of_lt_of_le (s.klow b (hK b hb).2) e.size
def triedS (mis:TypeId) (cv:Cv):Cv:=fun _ v args h k=>
 match v,args with
 |.fn _ [],[.fn f caps]=>cv _ (.fn f caps) [] h fun x u h1=>
  match x,u with
  |.normal,.tup []=>k .normal (.int .i64 0) h1
  |.pan (.ifc t (.agg [.int .i64 e])),_=>if t=mis then k .normal (.int .i64 e) h1 else none
  |_,_=>none
 |_,_=>none
structure TriedOk (P:Program) (f:FuncId) (mis:TypeId):Prop where
 enter:∀args w,(callFunc f args).run P w=.ok (.enter f args) w
 ok:∀(K:FuncId) (caps:Array Value) (Q:World→Prop),(∀w,(callFunc K caps).run P w=.ok (.enter K caps) w)→∀(w:World),
  (∀w1,Below w.heap.size w w1→w.heap.size<w1.heap.size→Calls P K caps w1 fun e w'=>e=.returned (.tuple #[])∧w'.heap[w.heap.size]?=w1.heap[w.heap.size]?∧w1.heap.size≤w'.heap.size∧Q w') →
  Calls P f #[.func (.func K) #[] caps] w fun e w'=>e=.returned (.int .i64 0)∧∃w2,Q w2∧Exd w2.heap.size w.heap.size w2 w'
 err:∀(K:FuncId) (caps:Array Value) (c:Int) (Q:World→Prop),(∀w,(callFunc K caps).run P w=.ok (.enter K caps) w)→∀(w:World),
  (∀w1,Below w.heap.size w w1→w.heap.size<w1.heap.size→Calls P K caps w1 fun e w'=>e=.panicked [{ v:=.iface mis (.agg #[.int .i64 c]),recovered:=false }]∧w'.heap[w.heap.size]?=w1.heap[w.heap.size]?∧w1.heap.size≤w'.heap.size∧Q w') →
  Calls P f #[.func (.func K) #[] caps] w fun e w'=>e=.returned (.int .i64 c)∧∃w2,Q w2∧Exd w2.heap.size w.heap.size w2 w'
theorem rep_fn {h g w} {f:FuncId} {caps:List AVal} {z:Value} (r:Rep h g w (.fn f caps) z):∃arr,z=.func (.func f) #[] arr∧caps.length=arr.size:=by
 cases r with
 |fn _ _ arr hl _=>exact⟨arr,rfl,hl⟩
theorem tried_at {P:Program} {f:FuncId} {mis:TypeId} (ht:TriedOk P f mis) (cv:Cv) (hcv:CvOk P cv) (caps0:List AVal):CvAt P (triedS mis cv) (.fn f caps0) where
 nat:=fun α args h k=>by
  unfold triedS
  split
  ·rename_i f' fk caps heq
   refine (hcv.nat _ (.fn fk caps) [] h _).trans (Eq.trans ?_ (congrArg (fun z:Option (AExit × AVal × List ABlk)=>z.bind fun p=>k p.1 p.2.1 p.2.2) (hcv.nat _ (.fn fk caps) [] h _).symm))
   cases cv _ (.fn fk caps) [] h tripE with
   |none=>rfl
   |some p=>
    obtain⟨x,u,h1⟩:=p
    simp only[Option.bind_some]
    split
    ·rfl
    ·split<;>rfl
    ·rfl
  ·rfl
 ok:=fun args h x u h1 hk K g w fv cargs s hfv hl hr=>by
  unfold triedS at hk
  split at hk
  ·rename_i f' fk caps heq
   cases heq
   rw[hcv.nat] at hk
   obtain⟨carr,rfl,hcl⟩:=rep_fn hfv
   have hc0:carr=#[]:=Array.eq_empty_of_size_eq_zero hcl.symm
   subst hc0
   obtain⟨l⟩:=cargs
   match l,hl with
   | [z],_=>
     have hz:=hr 0 _ z rfl rfl
     obtain⟨karr,rfl,hkl⟩:=rep_fn hz
     -- the call below
     have below:∀x0 u0,cv _ (.fn fk caps) [] h tripE=some (x0,u0,h1)→∀w1,Below w.heap.size w w1→w.heap.size<w1.heap.size →
       (∀w,(callFunc fk karr).run P w=.ok (.enter fk karr) w)∧Calls P fk karr w1 (CvPost (fun b=>K b∨b=w.heap.size) h g w1 h1 x0 u0):=fun x0 u0 hc w1 hb hlt=>by
      have s1:=s.below hb g.M (fun _ h=>h) (fun _ h=>.inl h) fun b hb'=>Nat.lt_of_lt_of_le (s.low b hb') hb.size
      have l1:=le_below s hb g.M (fun _ h=>h) (fun _ h=>.inl h)
      have s2:St (fun b=>K b∨b=w.heap.size) h g w1:={
       blk:=s1.blk
       inj:=s1.inj
       sep:=fun i b ha hn=>by
        obtain⟨a1,a2,a3⟩:=s1.sep i b ha hn
        obtain⟨_,_,a4⟩:=s.sep i b ha hn
        exact⟨fun hk=>hk.elim a1 fun e=>by omega,a2,a3⟩
       low:=s1.low
       klow:=fun b hb'=>hb'.elim (s1.klow b) fun e=>by omega }
      rcases hcv.ok (.fn fk caps) [] h x0 u0 h1 hc _ g w1 (.func (.func fk) #[] karr) #[] s2 (hz.mono l1) rfl (fun j c z hc=>by simp at hc) with ⟨f2,c2,he,hen,hcall⟩|⟨_,_,_,_,_,he,_⟩|⟨_,_,_,_,⟨z,hz,_⟩,_⟩
      ·cases he
       simp only[Array.empty_append] at hen hcall
       exact⟨hen,hcall⟩
      ·cases he
      ·simp at hz
     have hen:∀x0 u0,cv _ (.fn fk caps) [] h tripE=some (x0,u0,h1)→∀w,(callFunc fk karr).run P w=.ok (.enter fk karr) w:=fun x0 u0 hc=>
      (below x0 u0 hc (w.alloc (.cells #[] 0)) ((Below.refl _ _).alloc (Nat.le_refl _) _) (by simp)).1
     let Q:World→Prop:=fun w2=>∃g',St (fun b=>K b∨b=w.heap.size) h1 g' w2∧Le K h g w h1 g' w2∧∀b,g'.M b→b≠w.heap.size
     have mkQ:∀w1 w2 g',Below w.heap.size w w1→St (fun b=>K b∨b=w.heap.size) h1 g' w2→Le (fun b=>K b∨b=w.heap.size) h g w1 h1 g' w2→Q w2:=fun w1 w2 g' hb a1 a2=>
      ⟨g',a1,(le_below s hb g.M (fun _ h=>h) (fun _ h=>.inl h)).trans (a2.less fun b hb=>.inl hb),fun b hb' e=>(a2.new b hb').elim (fun h=>by have:=s.low b h; omega) fun h=>h (.inr e)⟩
     have fin:∀(n:Int) w2 w',Q w2→Exd w2.heap.size w.heap.size w2 w'→CvPost K h g w h1 .normal (.int .i64 n) (.returned (.int .i64 n)) w':=fun n w2 w' ⟨g',a1,a2,a3⟩ e=>by
      have hK:∀b,K b→b≠w.heap.size∧(K b∨b=w.heap.size):=fun b hb=>⟨by have:=s.klow b hb; omega,.inl hb⟩
      exact⟨g',st_exd a1 (.inr rfl) a3 hK e,a2.trans (le_exd a1 a3 hK e),_,rfl,.int _ _⟩
     refine .inl ⟨f,#[],rfl,fun w=>ht.enter _ w,?_⟩
     show Calls P f #[.func (.func fk) #[] karr] w _
     cases hc:cv _ (.fn fk caps) [] h tripE with
     |none=>rw[hc] at hk; cases hk
     |some p=>
      obtain⟨x0,u0,h0⟩:=p
      rw[hc] at hk
      simp only[Option.bind_some] at hk
      split at hk
      ·cases hk
       refine (ht.ok fk karr Q (hen _ _ hc) w fun w1 hb hlt=>((below _ _ hc w1 hb hlt).2).mono ?_).mono ?_
       ·rintro e w' ⟨g',a1,a2,y,rfl,hy⟩
        cases hy with
        |tup _ arr hl' _=>
         have:arr=#[]:=Array.eq_empty_of_size_eq_zero hl'.symm
         subst this
         exact⟨rfl,a2.k _ (.inr rfl),a2.size,mkQ w1 w' g' hb a1 a2⟩
       ·rintro e w' ⟨rfl,w2,hq,hex⟩
        exact fin 0 w2 w' hq hex
      ·rename_i _ t ee
       split at hk
       ·rename_i ht'
        subst ht'
        cases hk
        refine (ht.err fk karr ee Q (hen _ _ hc) w fun w1 hb hlt=>((below _ _ hc w1 hb hlt).2).mono ?_).mono ?_
        ·rintro e w' ⟨g',a1,a2,y,rfl,hy⟩
         cases hy with
         |ifc _ _ y hy=>
          cases hy with
          |agg _ arr hl' hr'=>
           have hsz:arr.size=1:=hl'.symm
           have e0:=rep_int (hr' 0 _ arr[0] rfl (by simp))
           have:arr=#[.int .i64 ee]:=by
            obtain⟨l⟩:=arr
            match l,hsz with
            | [q],_=>simp at e0; rw[e0]
           subst this
           exact⟨rfl,a2.k _ (.inr rfl),a2.size,mkQ w1 w' g' hb a1 a2⟩
        ·rintro e w' ⟨rfl,w2,hq,hex⟩
         exact fin ee w2 w' hq hex
       ·cases hk
      ·cases hk
  ·cases hk
theorem cotried_tried:TriedOk Tryz.prog 143 226:=
 ⟨fun args w=>by kernel_rfl,fun K caps Q he w h=>cotried_ok K caps Q he w h,fun K caps c Q he w h=>cotried_err K caps c Q he w h⟩
end Go.Proofs.YtpgfncncgjihpaaGreat
namespace Go.Proofs.YtpgfncncgjihpaaGreat
def tab:Tab:=[
 (0,⟨.other,1,0,none,none⟩),
 (1,⟨.other,1,8,some (.nilfn),none⟩),
 (2,⟨.int .i64,1,8,some (.int .i64 (0)),some (.int .i64)⟩),
 (3,⟨.int .i64,1,8,some (.int .i64 (0)),some (.int .i64)⟩),
 (4,⟨.bool,1,1,some (.bool false),some .bool⟩),
 (5,⟨.int .u8,1,1,some (.int .u8 (0)),some (.int .u8)⟩),
 (6,⟨.int .u8,1,1,some (.int .u8 (0)),some (.int .u8)⟩),
 (7,⟨.recd [(0,2),(1,3),(2,4),(3,6)],4,24,some (.agg [.int .i64 (0),.int .i64 (0),.bool false,.int .u8 (0)]),some (.recd (.cons (.int .i64) (.cons (.int .i64) (.cons .bool (.cons (.int .u8) .nil)))))⟩),
 (8,⟨.recd [(0,2),(1,3),(2,4),(3,6)],4,24,some (.agg [.int .i64 (0),.int .i64 (0),.bool false,.int .u8 (0)]),some (.recd (.cons (.int .i64) (.cons (.int .i64) (.cons .bool (.cons (.int .u8) .nil)))))⟩),
 (9,⟨.str,1,16,some (.str ByteArray.empty),some .str⟩),
 (10,⟨.str,1,16,some (.str ByteArray.empty),some .str⟩),
 (11,⟨.str,1,16,some (.str ByteArray.empty),some .str⟩),
 (12,⟨.int .u64,1,8,some (.int .u64 (0)),some (.int .u64)⟩),
 (15,⟨.other,1,8,some (.nilpt),none⟩),
 (16,⟨.other,1,8,some (.nilpt),none⟩),
 (17,⟨.other,1,8,some (.nilpt),none⟩),
 (20,⟨.ifc,1,16,some (.nilif),none⟩),
 (21,⟨.int .i32,1,4,some (.int .i32 (0)),some (.int .i32)⟩),
 (22,⟨.int .i64,1,8,some (.int .i64 (0)),some (.int .i64)⟩),
 (23,⟨.recd [(0,22),(1,22)],2,16,some (.agg [.int .i64 (0),.int .i64 (0)]),some (.recd (.cons (.int .i64) (.cons (.int .i64) .nil)))⟩),
 (24,⟨.recd [(0,22),(1,22)],2,16,some (.agg [.int .i64 (0),.int .i64 (0)]),some (.recd (.cons (.int .i64) (.cons (.int .i64) .nil)))⟩),
 (25,⟨.sl 3,1,24,some (.nils),some (.sl (.int .i64))⟩),
 (26,⟨.recd [(0,24),(2,22),(3,3),(4,3),(5,25),(6,25)],7,88,some (.agg [.int .i64 (0),.int .i64 (0),.int .i64 (0),.int .i64 (0),.int .i64 (0),.nils,.nils]),some (.recd (.cons (.recd (.cons (.int .i64) (.cons (.int .i64) .nil))) (.cons (.int .i64) (.cons (.int .i64) (.cons (.int .i64) (.cons (.sl (.int .i64)) (.cons (.sl (.int .i64)) .nil)))))))⟩),
 (27,⟨.recd [(0,24),(2,22),(3,3),(4,3),(5,25),(6,25)],7,88,some (.agg [.int .i64 (0),.int .i64 (0),.int .i64 (0),.int .i64 (0),.int .i64 (0),.nils,.nils]),some (.recd (.cons (.recd (.cons (.int .i64) (.cons (.int .i64) .nil))) (.cons (.int .i64) (.cons (.int .i64) (.cons (.int .i64) (.cons (.sl (.int .i64)) (.cons (.sl (.int .i64)) .nil)))))))⟩),
 (28,⟨.recd [(0,22),(1,22),(2,3),(3,3),(4,3)],5,40,some (.agg [.int .i64 (0),.int .i64 (0),.int .i64 (0),.int .i64 (0),.int .i64 (0)]),some (.recd (.cons (.int .i64) (.cons (.int .i64) (.cons (.int .i64) (.cons (.int .i64) (.cons (.int .i64) .nil))))))⟩),
 (29,⟨.recd [(0,22),(1,22),(2,3),(3,3),(4,3)],5,40,some (.agg [.int .i64 (0),.int .i64 (0),.int .i64 (0),.int .i64 (0),.int .i64 (0)]),some (.recd (.cons (.int .i64) (.cons (.int .i64) (.cons (.int .i64) (.cons (.int .i64) (.cons (.int .i64) .nil))))))⟩),
 (30,⟨.sl 65,1,24,some (.nils),some (.sl (.recd (.cons (.int .i64) (.cons (.int .i64) (.cons (.recd (.cons (.recd (.cons (.int .i64) (.cons (.int .i64) .nil))) (.cons (.recd (.cons (.int .i64) (.cons (.int .i64) .nil))) (.cons (.int .i64) .nil)))) (.cons .bool .nil))))))⟩),
 (31,⟨.recd [(0,27),(7,29),(12,3),(13,30)],14,160,some (.agg [.int .i64 (0),.int .i64 (0),.int .i64 (0),.int .i64 (0),.int .i64 (0),.nils,.nils,.int .i64 (0),.int .i64 (0),.int .i64 (0),.int .i64 (0),.int .i64 (0),.int .i64 (0),.nils]),some (.recd (.cons (.recd (.cons (.recd (.cons (.int .i64) (.cons (.int .i64) .nil))) (.cons (.int .i64) (.cons (.int .i64) (.cons (.int .i64) (.cons (.sl (.int .i64)) (.cons (.sl (.int .i64)) .nil))))))) (.cons (.recd (.cons (.int .i64) (.cons (.int .i64) (.cons (.int .i64) (.cons (.int .i64) (.cons (.int .i64) .nil)))))) (.cons (.int .i64) (.cons (.sl (.recd (.cons (.int .i64) (.cons (.int .i64) (.cons (.recd (.cons (.recd (.cons (.int .i64) (.cons (.int .i64) .nil))) (.cons (.recd (.cons (.int .i64) (.cons (.int .i64) .nil))) (.cons (.int .i64) .nil)))) (.cons .bool .nil)))))) .nil)))))⟩),
 (32,⟨.recd [(0,27),(7,29),(12,3),(13,30)],14,160,some (.agg [.int .i64 (0),.int .i64 (0),.int .i64 (0),.int .i64 (0),.int .i64 (0),.nils,.nils,.int .i64 (0),.int .i64 (0),.int .i64 (0),.int .i64 (0),.int .i64 (0),.int .i64 (0),.nils]),some (.recd (.cons (.recd (.cons (.recd (.cons (.int .i64) (.cons (.int .i64) .nil))) (.cons (.int .i64) (.cons (.int .i64) (.cons (.int .i64) (.cons (.sl (.int .i64)) (.cons (.sl (.int .i64)) .nil))))))) (.cons (.recd (.cons (.int .i64) (.cons (.int .i64) (.cons (.int .i64) (.cons (.int .i64) (.cons (.int .i64) .nil)))))) (.cons (.int .i64) (.cons (.sl (.recd (.cons (.int .i64) (.cons (.int .i64) (.cons (.recd (.cons (.recd (.cons (.int .i64) (.cons (.int .i64) .nil))) (.cons (.recd (.cons (.int .i64) (.cons (.int .i64) .nil))) (.cons (.int .i64) .nil)))) (.cons .bool .nil)))))) .nil)))))⟩),
 (33,⟨.recd [(0,24),(2,24),(4,3)],5,40,some (.agg [.int .i64 (0),.int .i64 (0),.int .i64 (0),.int .i64 (0),.int .i64 (0)]),some (.recd (.cons (.recd (.cons (.int .i64) (.cons (.int .i64) .nil))) (.cons (.recd (.cons (.int .i64) (.cons (.int .i64) .nil))) (.cons (.int .i64) .nil))))⟩),
 (34,⟨.recd [(0,24),(2,24),(4,3)],5,40,some (.agg [.int .i64 (0),.int .i64 (0),.int .i64 (0),.int .i64 (0),.int .i64 (0)]),some (.recd (.cons (.recd (.cons (.int .i64) (.cons (.int .i64) .nil))) (.cons (.recd (.cons (.int .i64) (.cons (.int .i64) .nil))) (.cons (.int .i64) .nil))))⟩),
 (35,⟨.sl 236,1,24,some (.nils),some (.sl (.recd (.cons (.int .i64) (.cons (.int .i64) (.cons (.int .i64) .nil)))))⟩),
 (36,⟨.recd [(0,3),(1,3),(2,34),(7,35),(8,24)],10,96,some (.agg [.int .i64 (0),.int .i64 (0),.int .i64 (0),.int .i64 (0),.int .i64 (0),.int .i64 (0),.int .i64 (0),.nils,.int .i64 (0),.int .i64 (0)]),some (.recd (.cons (.int .i64) (.cons (.int .i64) (.cons (.recd (.cons (.recd (.cons (.int .i64) (.cons (.int .i64) .nil))) (.cons (.recd (.cons (.int .i64) (.cons (.int .i64) .nil))) (.cons (.int .i64) .nil)))) (.cons (.sl (.recd (.cons (.int .i64) (.cons (.int .i64) (.cons (.int .i64) .nil))))) (.cons (.recd (.cons (.int .i64) (.cons (.int .i64) .nil))) .nil))))))⟩),
 (37,⟨.recd [(0,3),(1,3),(2,34),(7,35),(8,24)],10,96,some (.agg [.int .i64 (0),.int .i64 (0),.int .i64 (0),.int .i64 (0),.int .i64 (0),.int .i64 (0),.int .i64 (0),.nils,.int .i64 (0),.int .i64 (0)]),some (.recd (.cons (.int .i64) (.cons (.int .i64) (.cons (.recd (.cons (.recd (.cons (.int .i64) (.cons (.int .i64) .nil))) (.cons (.recd (.cons (.int .i64) (.cons (.int .i64) .nil))) (.cons (.int .i64) .nil)))) (.cons (.sl (.recd (.cons (.int .i64) (.cons (.int .i64) (.cons (.int .i64) .nil))))) (.cons (.recd (.cons (.int .i64) (.cons (.int .i64) .nil))) .nil))))))⟩),
 (38,⟨.other,1,8,some (.nilfn),none⟩),
 (39,⟨.recd [(0,27),(7,29),(12,3),(13,30)],14,160,some (.agg [.int .i64 (0),.int .i64 (0),.int .i64 (0),.int .i64 (0),.int .i64 (0),.nils,.nils,.int .i64 (0),.int .i64 (0),.int .i64 (0),.int .i64 (0),.int .i64 (0),.int .i64 (0),.nils]),some (.recd (.cons (.recd (.cons (.recd (.cons (.int .i64) (.cons (.int .i64) .nil))) (.cons (.int .i64) (.cons (.int .i64) (.cons (.int .i64) (.cons (.sl (.int .i64)) (.cons (.sl (.int .i64)) .nil))))))) (.cons (.recd (.cons (.int .i64) (.cons (.int .i64) (.cons (.int .i64) (.cons (.int .i64) (.cons (.int .i64) .nil)))))) (.cons (.int .i64) (.cons (.sl (.recd (.cons (.int .i64) (.cons (.int .i64) (.cons (.recd (.cons (.recd (.cons (.int .i64) (.cons (.int .i64) .nil))) (.cons (.recd (.cons (.int .i64) (.cons (.int .i64) .nil))) (.cons (.int .i64) .nil)))) (.cons .bool .nil)))))) .nil)))))⟩),
 (40,⟨.other,1,8,some (.nilfn),none⟩),
 (41,⟨.other,1,8,some (.nilfn),none⟩),
 (42,⟨.int .i64,1,8,some (.int .i64 (0)),some (.int .i64)⟩),
 (43,⟨.other,1,0,none,none⟩),
 (44,⟨.other,1,8,some (.nilfn),none⟩),
 (45,⟨.other,1,0,none,none⟩),
 (46,⟨.other,1,8,some (.nilfn),none⟩),
 (47,⟨.other,1,0,none,none⟩),
 (48,⟨.other,1,8,some (.nilfn),none⟩),
 (49,⟨.sl 100,1,24,some (.nils),some (.sl (.recd (.cons (.int .i64) (.cons (.int .i64) (.cons (.recd (.cons (.int .i64) (.cons (.int .i64) .nil))) .nil)))))⟩),
 (50,⟨.other,1,0,none,none⟩),
 (51,⟨.other,1,8,some (.nilfn),none⟩),
 (52,⟨.other,1,8,some (.nilfn),none⟩),
 (53,⟨.other,1,8,some (.nilfn),none⟩),
 (54,⟨.recd [(0,3),(1,3)],2,16,some (.agg [.int .i64 (0),.int .i64 (0)]),some (.recd (.cons (.int .i64) (.cons (.int .i64) .nil)))⟩),
 (55,⟨.recd [(0,3),(1,3)],2,16,some (.agg [.int .i64 (0),.int .i64 (0)]),some (.recd (.cons (.int .i64) (.cons (.int .i64) .nil)))⟩),
 (56,⟨.other,1,0,none,none⟩),
 (57,⟨.other,1,8,some (.nilfn),none⟩),
 (58,⟨.other,1,8,some (.nilfn),none⟩),
 (59,⟨.other,1,0,none,none⟩),
 (60,⟨.other,1,8,some (.nilfn),none⟩),
 (61,⟨.other,1,0,none,none⟩),
 (62,⟨.other,1,8,some (.nilfn),none⟩),
 (63,⟨.arr 3 24,6,48,some (.agg [.int .i64 (0),.int .i64 (0),.int .i64 (0),.int .i64 (0),.int .i64 (0),.int .i64 (0)]),some (.recd (.cons (.recd (.cons (.int .i64) (.cons (.int .i64) .nil))) (.cons (.recd (.cons (.int .i64) (.cons (.int .i64) .nil))) (.cons (.recd (.cons (.int .i64) (.cons (.int .i64) .nil))) .nil))))⟩),
 (64,⟨.recd [(0,3),(1,3),(2,34),(7,4)],8,64,some (.agg [.int .i64 (0),.int .i64 (0),.int .i64 (0),.int .i64 (0),.int .i64 (0),.int .i64 (0),.int .i64 (0),.bool false]),some (.recd (.cons (.int .i64) (.cons (.int .i64) (.cons (.recd (.cons (.recd (.cons (.int .i64) (.cons (.int .i64) .nil))) (.cons (.recd (.cons (.int .i64) (.cons (.int .i64) .nil))) (.cons (.int .i64) .nil)))) (.cons .bool .nil)))))⟩),
 (65,⟨.recd [(0,3),(1,3),(2,34),(7,4)],8,64,some (.agg [.int .i64 (0),.int .i64 (0),.int .i64 (0),.int .i64 (0),.int .i64 (0),.int .i64 (0),.int .i64 (0),.bool false]),some (.recd (.cons (.int .i64) (.cons (.int .i64) (.cons (.recd (.cons (.recd (.cons (.int .i64) (.cons (.int .i64) .nil))) (.cons (.recd (.cons (.int .i64) (.cons (.int .i64) .nil))) (.cons (.int .i64) .nil)))) (.cons .bool .nil)))))⟩),
 (66,⟨.other,1,0,none,none⟩),
 (67,⟨.other,1,8,some (.nilfn),none⟩),
 (68,⟨.other,1,8,some (.nilfn),none⟩),
 (69,⟨.other,1,8,some (.nilfn),none⟩),
 (70,⟨.recd [(0,9),(1,3),(2,25)],3,48,some (.agg [.str ByteArray.empty,.int .i64 (0),.nils]),some (.recd (.cons .str (.cons (.int .i64) (.cons (.sl (.int .i64)) .nil))))⟩),
 (71,⟨.recd [(0,9),(1,3),(2,25)],3,48,some (.agg [.str ByteArray.empty,.int .i64 (0),.nils]),some (.recd (.cons .str (.cons (.int .i64) (.cons (.sl (.int .i64)) .nil))))⟩),
 (72,⟨.sl 71,1,24,some (.nils),some (.sl (.recd (.cons .str (.cons (.int .i64) (.cons (.sl (.int .i64)) .nil)))))⟩),
 (73,⟨.other,1,0,none,none⟩),
 (74,⟨.other,1,8,some (.nilfn),none⟩),
 (75,⟨.other,1,8,some (.nilfn),none⟩),
 (76,⟨.other,1,8,some (.nilfn),none⟩),
 (77,⟨.other,1,8,some (.nilfn),none⟩),
 (78,⟨.other,1,0,none,none⟩),
 (79,⟨.other,1,8,some (.nilfn),none⟩),
 (80,⟨.other,1,8,some (.nilfn),none⟩),
 (81,⟨.recd [(0,27),(7,29),(12,3),(13,30)],14,160,some (.agg [.int .i64 (0),.int .i64 (0),.int .i64 (0),.int .i64 (0),.int .i64 (0),.nils,.nils,.int .i64 (0),.int .i64 (0),.int .i64 (0),.int .i64 (0),.int .i64 (0),.int .i64 (0),.nils]),some (.recd (.cons (.recd (.cons (.recd (.cons (.int .i64) (.cons (.int .i64) .nil))) (.cons (.int .i64) (.cons (.int .i64) (.cons (.int .i64) (.cons (.sl (.int .i64)) (.cons (.sl (.int .i64)) .nil))))))) (.cons (.recd (.cons (.int .i64) (.cons (.int .i64) (.cons (.int .i64) (.cons (.int .i64) (.cons (.int .i64) .nil)))))) (.cons (.int .i64) (.cons (.sl (.recd (.cons (.int .i64) (.cons (.int .i64) (.cons (.recd (.cons (.recd (.cons (.int .i64) (.cons (.int .i64) .nil))) (.cons (.recd (.cons (.int .i64) (.cons (.int .i64) .nil))) (.cons (.int .i64) .nil)))) (.cons .bool .nil)))))) .nil)))))⟩),
 (82,⟨.recd [(0,27),(7,29),(12,3),(13,30)],14,160,some (.agg [.int .i64 (0),.int .i64 (0),.int .i64 (0),.int .i64 (0),.int .i64 (0),.nils,.nils,.int .i64 (0),.int .i64 (0),.int .i64 (0),.int .i64 (0),.int .i64 (0),.int .i64 (0),.nils]),some (.recd (.cons (.recd (.cons (.recd (.cons (.int .i64) (.cons (.int .i64) .nil))) (.cons (.int .i64) (.cons (.int .i64) (.cons (.int .i64) (.cons (.sl (.int .i64)) (.cons (.sl (.int .i64)) .nil))))))) (.cons (.recd (.cons (.int .i64) (.cons (.int .i64) (.cons (.int .i64) (.cons (.int .i64) (.cons (.int .i64) .nil)))))) (.cons (.int .i64) (.cons (.sl (.recd (.cons (.int .i64) (.cons (.int .i64) (.cons (.recd (.cons (.recd (.cons (.int .i64) (.cons (.int .i64) .nil))) (.cons (.recd (.cons (.int .i64) (.cons (.int .i64) .nil))) (.cons (.int .i64) .nil)))) (.cons .bool .nil)))))) .nil)))))⟩),
 (83,⟨.other,1,8,some (.nilfn),none⟩),
 (84,⟨.other,1,8,some (.nilfn),none⟩),
 (85,⟨.other,1,8,some (.nilfn),none⟩),
 (86,⟨.sl 22,1,24,some (.nils),some (.sl (.int .i64))⟩),
 (87,⟨.other,1,8,some (.nilfn),none⟩),
 (88,⟨.other,1,8,some (.nilfn),none⟩),
 (89,⟨.other,1,8,some (.nilfn),none⟩),
 (90,⟨.other,1,8,some (.nilfn),none⟩),
 (91,⟨.recd [(0,37)],10,96,some (.agg [.int .i64 (0),.int .i64 (0),.int .i64 (0),.int .i64 (0),.int .i64 (0),.int .i64 (0),.int .i64 (0),.nils,.int .i64 (0),.int .i64 (0)]),some (.recd (.cons (.recd (.cons (.int .i64) (.cons (.int .i64) (.cons (.recd (.cons (.recd (.cons (.int .i64) (.cons (.int .i64) .nil))) (.cons (.recd (.cons (.int .i64) (.cons (.int .i64) .nil))) (.cons (.int .i64) .nil)))) (.cons (.sl (.recd (.cons (.int .i64) (.cons (.int .i64) (.cons (.int .i64) .nil))))) (.cons (.recd (.cons (.int .i64) (.cons (.int .i64) .nil))) .nil)))))) .nil))⟩),
 (92,⟨.recd [(0,37)],10,96,some (.agg [.int .i64 (0),.int .i64 (0),.int .i64 (0),.int .i64 (0),.int .i64 (0),.int .i64 (0),.int .i64 (0),.nils,.int .i64 (0),.int .i64 (0)]),some (.recd (.cons (.recd (.cons (.int .i64) (.cons (.int .i64) (.cons (.recd (.cons (.recd (.cons (.int .i64) (.cons (.int .i64) .nil))) (.cons (.recd (.cons (.int .i64) (.cons (.int .i64) .nil))) (.cons (.int .i64) .nil)))) (.cons (.sl (.recd (.cons (.int .i64) (.cons (.int .i64) (.cons (.int .i64) .nil))))) (.cons (.recd (.cons (.int .i64) (.cons (.int .i64) .nil))) .nil)))))) .nil))⟩),
 (93,⟨.other,1,8,some (.nilfn),none⟩),
 (94,⟨.other,1,8,some (.nilfn),none⟩),
 (95,⟨.other,1,0,none,none⟩),
 (96,⟨.other,1,8,some (.nilfn),none⟩),
 (97,⟨.other,1,8,some (.nilfn),none⟩),
 (98,⟨.other,1,8,some (.nilfn),none⟩),
 (99,⟨.recd [(0,3),(1,3),(2,24)],4,32,some (.agg [.int .i64 (0),.int .i64 (0),.int .i64 (0),.int .i64 (0)]),some (.recd (.cons (.int .i64) (.cons (.int .i64) (.cons (.recd (.cons (.int .i64) (.cons (.int .i64) .nil))) .nil))))⟩),
 (100,⟨.recd [(0,3),(1,3),(2,24)],4,32,some (.agg [.int .i64 (0),.int .i64 (0),.int .i64 (0),.int .i64 (0)]),some (.recd (.cons (.int .i64) (.cons (.int .i64) (.cons (.recd (.cons (.int .i64) (.cons (.int .i64) .nil))) .nil))))⟩),
 (101,⟨.other,1,8,some (.nilfn),none⟩),
 (102,⟨.other,1,8,some (.nilfn),none⟩),
 (103,⟨.other,1,8,some (.nilfn),none⟩),
 (104,⟨.other,1,8,some (.nilfn),none⟩),
 (105,⟨.other,1,8,some (.nilfn),none⟩),
 (106,⟨.other,1,8,some (.nilfn),none⟩),
 (107,⟨.other,1,8,some (.nilfn),none⟩),
 (108,⟨.other,1,8,some (.nilfn),none⟩),
 (109,⟨.other,1,8,some (.nilfn),none⟩),
 (110,⟨.other,1,8,some (.nilfn),none⟩),
 (111,⟨.other,1,8,some (.nilfn),none⟩),
 (112,⟨.recd [(0,9),(1,3)],2,24,some (.agg [.str ByteArray.empty,.int .i64 (0)]),some (.recd (.cons .str (.cons (.int .i64) .nil)))⟩),
 (113,⟨.recd [(0,9),(1,3)],2,24,some (.agg [.str ByteArray.empty,.int .i64 (0)]),some (.recd (.cons .str (.cons (.int .i64) .nil)))⟩),
 (114,⟨.other,1,8,some (.nilfn),none⟩),
 (115,⟨.other,1,8,some (.nilfn),none⟩),
 (116,⟨.other,1,8,some (.nilfn),none⟩),
 (117,⟨.other,1,8,some (.nilfn),none⟩),
 (118,⟨.map 113 25,1,8,some (.nilmp),none⟩),
 (119,⟨.map 113 25,1,8,some (.nilmp),none⟩),
 (120,⟨.other,1,8,some (.nilfn),none⟩),
 (121,⟨.other,1,0,none,none⟩),
 (122,⟨.other,1,8,some (.nilfn),none⟩),
 (123,⟨.other,1,8,some (.nilfn),none⟩),
 (124,⟨.other,1,8,some (.nilfn),none⟩),
 (125,⟨.other,1,8,some (.nilfn),none⟩),
 (126,⟨.other,1,8,some (.nilfn),none⟩),
 (127,⟨.other,1,8,some (.nilfn),none⟩),
 (128,⟨.other,1,8,some (.nilfn),none⟩),
 (129,⟨.other,1,8,some (.nilfn),none⟩),
 (130,⟨.other,1,8,some (.nilfn),none⟩),
 (131,⟨.other,1,8,some (.nilfn),none⟩),
 (132,⟨.other,1,8,some (.nilfn),none⟩),
 (133,⟨.other,1,8,some (.nilfn),none⟩),
 (134,⟨.int .u64,1,8,some (.int .u64 (0)),some (.int .u64)⟩),
 (135,⟨.recd [(0,134),(1,134)],2,16,some (.agg [.int .u64 (0),.int .u64 (0)]),some (.recd (.cons (.int .u64) (.cons (.int .u64) .nil)))⟩),
 (136,⟨.recd [(0,134),(1,134)],2,16,some (.agg [.int .u64 (0),.int .u64 (0)]),some (.recd (.cons (.int .u64) (.cons (.int .u64) .nil)))⟩),
 (137,⟨.other,1,8,some (.nilfn),none⟩),
 (138,⟨.other,1,8,some (.nilfn),none⟩),
 (139,⟨.other,1,8,some (.nilfn),none⟩),
 (140,⟨.other,1,8,some (.nilfn),none⟩),
 (141,⟨.other,1,8,some (.nilfn),none⟩),
 (142,⟨.other,1,8,some (.nilfn),none⟩),
 (143,⟨.other,1,8,some (.nilfn),none⟩),
 (144,⟨.recd [(0,42)],1,8,some (.agg [.int .i64 (0)]),some (.recd (.cons (.int .i64) .nil))⟩),
 (145,⟨.recd [(0,42)],1,8,some (.agg [.int .i64 (0)]),some (.recd (.cons (.int .i64) .nil))⟩),
 (146,⟨.other,1,0,none,none⟩),
 (147,⟨.other,1,8,some (.nilfn),none⟩),
 (148,⟨.other,1,8,some (.nilfn),none⟩),
 (149,⟨.sl 207,1,24,some (.nils),some (.sl (.recd (.cons (.int .i64) (.cons (.int .i64) (.cons (.int .i64) .nil)))))⟩),
 (150,⟨.other,1,0,none,none⟩),
 (151,⟨.other,1,8,some (.nilfn),none⟩),
 (152,⟨.sl 156,1,24,some (.nils),some (.sl (.recd (.cons (.int .i64) (.cons (.int .i64) .nil))))⟩),
 (153,⟨.other,1,0,none,none⟩),
 (154,⟨.other,1,8,some (.nilfn),none⟩),
 (155,⟨.recd [(0,3),(1,3)],2,16,some (.agg [.int .i64 (0),.int .i64 (0)]),some (.recd (.cons (.int .i64) (.cons (.int .i64) .nil)))⟩),
 (156,⟨.recd [(0,3),(1,3)],2,16,some (.agg [.int .i64 (0),.int .i64 (0)]),some (.recd (.cons (.int .i64) (.cons (.int .i64) .nil)))⟩),
 (157,⟨.other,1,8,some (.nilfn),none⟩),
 (158,⟨.other,1,8,some (.nilfn),none⟩),
 (159,⟨.other,1,8,some (.nilfn),none⟩),
 (160,⟨.other,1,8,some (.nilfn),none⟩),
 (161,⟨.sl 300,1,24,some (.nils),some (.sl (.recd (.cons (.int .i64) (.cons (.int .i64) (.cons (.int .i64) .nil)))))⟩),
 (162,⟨.other,1,0,none,none⟩),
 (163,⟨.other,1,8,some (.nilfn),none⟩),
 (164,⟨.map 167 4,1,8,some (.nilmp),none⟩),
 (165,⟨.recd [(0,65)],8,64,some (.agg [.int .i64 (0),.int .i64 (0),.int .i64 (0),.int .i64 (0),.int .i64 (0),.int .i64 (0),.int .i64 (0),.bool false]),some (.recd (.cons (.recd (.cons (.int .i64) (.cons (.int .i64) (.cons (.recd (.cons (.recd (.cons (.int .i64) (.cons (.int .i64) .nil))) (.cons (.recd (.cons (.int .i64) (.cons (.int .i64) .nil))) (.cons (.int .i64) .nil)))) (.cons .bool .nil))))) .nil))⟩),
 (166,⟨.recd [(0,65)],8,64,some (.agg [.int .i64 (0),.int .i64 (0),.int .i64 (0),.int .i64 (0),.int .i64 (0),.int .i64 (0),.int .i64 (0),.bool false]),some (.recd (.cons (.recd (.cons (.int .i64) (.cons (.int .i64) (.cons (.recd (.cons (.recd (.cons (.int .i64) (.cons (.int .i64) .nil))) (.cons (.recd (.cons (.int .i64) (.cons (.int .i64) .nil))) (.cons (.int .i64) .nil)))) (.cons .bool .nil))))) .nil))⟩),
 (167,⟨.arr 2 3,2,16,some (.agg [.int .i64 (0),.int .i64 (0)]),some (.recd (.cons (.int .i64) (.cons (.int .i64) .nil)))⟩),
 (168,⟨.map 170 4,1,8,some (.nilmp),none⟩),
 (169,⟨.recd [(0,3),(1,3)],2,16,some (.agg [.int .i64 (0),.int .i64 (0)]),some (.recd (.cons (.int .i64) (.cons (.int .i64) .nil)))⟩),
 (170,⟨.recd [(0,3),(1,3)],2,16,some (.agg [.int .i64 (0),.int .i64 (0)]),some (.recd (.cons (.int .i64) (.cons (.int .i64) .nil)))⟩),
 (171,⟨.other,1,8,some (.nilfn),none⟩),
 (172,⟨.other,1,8,some (.nilfn),none⟩),
 (173,⟨.other,1,8,some (.nilfn),none⟩),
 (174,⟨.other,1,8,some (.nilfn),none⟩),
 (175,⟨.other,1,8,some (.nilfn),none⟩),
 (176,⟨.other,1,8,some (.nilfn),none⟩),
 (177,⟨.other,1,8,some (.nilfn),none⟩),
 (178,⟨.other,1,8,some (.nilfn),none⟩),
 (179,⟨.other,1,8,some (.nilfn),none⟩),
 (180,⟨.other,1,8,some (.nilfn),none⟩),
 (181,⟨.other,1,8,some (.nilfn),none⟩),
 (182,⟨.other,1,8,some (.nilfn),none⟩),
 (183,⟨.sl 113,1,24,some (.nils),some (.sl (.recd (.cons .str (.cons (.int .i64) .nil))))⟩),
 (184,⟨.other,1,8,some (.nilfn),none⟩),
 (185,⟨.other,1,8,some (.nilfn),none⟩),
 (186,⟨.other,1,8,some (.nilfn),none⟩),
 (187,⟨.other,1,8,some (.nilfn),none⟩),
 (188,⟨.other,1,8,some (.nilfn),none⟩),
 (189,⟨.other,1,8,some (.nilfn),none⟩),
 (190,⟨.recd [(0,42)],1,8,some (.agg [.int .i64 (0)]),some (.recd (.cons (.int .i64) .nil))⟩),
 (191,⟨.recd [(0,42)],1,8,some (.agg [.int .i64 (0)]),some (.recd (.cons (.int .i64) .nil))⟩),
 (192,⟨.other,1,0,none,none⟩),
 (193,⟨.other,1,8,some (.nilfn),none⟩),
 (194,⟨.other,1,8,some (.nilfn),none⟩),
 (195,⟨.int .u64,1,8,some (.int .u64 (0)),some (.int .u64)⟩),
 (196,⟨.other,1,8,some (.nilfn),none⟩),
 (197,⟨.other,1,8,some (.nilfn),none⟩),
 (198,⟨.other,1,0,none,none⟩),
 (199,⟨.other,1,8,some (.nilfn),none⟩),
 (200,⟨.sl 24,1,24,some (.nils),some (.sl (.recd (.cons (.int .i64) (.cons (.int .i64) .nil))))⟩),
 (201,⟨.other,1,8,some (.nilfn),none⟩),
 (202,⟨.other,1,8,some (.nilfn),none⟩),
 (203,⟨.other,1,8,some (.nilfn),none⟩),
 (204,⟨.other,1,8,some (.nilfn),none⟩),
 (205,⟨.other,1,8,some (.nilfn),none⟩),
 (206,⟨.recd [(0,3),(1,22),(2,22)],3,24,some (.agg [.int .i64 (0),.int .i64 (0),.int .i64 (0)]),some (.recd (.cons (.int .i64) (.cons (.int .i64) (.cons (.int .i64) .nil))))⟩),
 (207,⟨.recd [(0,3),(1,22),(2,22)],3,24,some (.agg [.int .i64 (0),.int .i64 (0),.int .i64 (0)]),some (.recd (.cons (.int .i64) (.cons (.int .i64) (.cons (.int .i64) .nil))))⟩),
 (208,⟨.sl 207,1,24,some (.nils),some (.sl (.recd (.cons (.int .i64) (.cons (.int .i64) (.cons (.int .i64) .nil)))))⟩),
 (209,⟨.arr 2 208,2,48,some (.agg [.nils,.nils]),some (.recd (.cons (.sl (.recd (.cons (.int .i64) (.cons (.int .i64) (.cons (.int .i64) .nil))))) (.cons (.sl (.recd (.cons (.int .i64) (.cons (.int .i64) (.cons (.int .i64) .nil))))) .nil)))⟩),
 (210,⟨.other,1,0,none,none⟩),
 (211,⟨.other,1,8,some (.nilfn),none⟩),
 (212,⟨.map 156 4,1,8,some (.nilmp),none⟩),
 (213,⟨.other,1,8,some (.nilfn),none⟩),
 (214,⟨.other,1,8,some (.nilfn),none⟩),
 (215,⟨.other,1,8,some (.nilfn),none⟩),
 (216,⟨.sl 166,1,24,some (.nils),some (.sl (.recd (.cons (.recd (.cons (.int .i64) (.cons (.int .i64) (.cons (.recd (.cons (.recd (.cons (.int .i64) (.cons (.int .i64) .nil))) (.cons (.recd (.cons (.int .i64) (.cons (.int .i64) .nil))) (.cons (.int .i64) .nil)))) (.cons .bool .nil))))) .nil)))⟩),
 (217,⟨.sl 166,1,24,some (.nils),some (.sl (.recd (.cons (.recd (.cons (.int .i64) (.cons (.int .i64) (.cons (.recd (.cons (.recd (.cons (.int .i64) (.cons (.int .i64) .nil))) (.cons (.recd (.cons (.int .i64) (.cons (.int .i64) .nil))) (.cons (.int .i64) .nil)))) (.cons .bool .nil))))) .nil)))⟩),
 (218,⟨.other,1,8,some (.nilfn),none⟩),
 (219,⟨.other,1,8,some (.nilfn),none⟩),
 (220,⟨.recd [(0,27),(7,29),(12,35),(13,3),(14,3)],15,168,some (.agg [.int .i64 (0),.int .i64 (0),.int .i64 (0),.int .i64 (0),.int .i64 (0),.nils,.nils,.int .i64 (0),.int .i64 (0),.int .i64 (0),.int .i64 (0),.int .i64 (0),.nils,.int .i64 (0),.int .i64 (0)]),some (.recd (.cons (.recd (.cons (.recd (.cons (.int .i64) (.cons (.int .i64) .nil))) (.cons (.int .i64) (.cons (.int .i64) (.cons (.int .i64) (.cons (.sl (.int .i64)) (.cons (.sl (.int .i64)) .nil))))))) (.cons (.recd (.cons (.int .i64) (.cons (.int .i64) (.cons (.int .i64) (.cons (.int .i64) (.cons (.int .i64) .nil)))))) (.cons (.sl (.recd (.cons (.int .i64) (.cons (.int .i64) (.cons (.int .i64) .nil))))) (.cons (.int .i64) (.cons (.int .i64) .nil))))))⟩),
 (221,⟨.recd [(0,27),(7,29),(12,35),(13,3),(14,3)],15,168,some (.agg [.int .i64 (0),.int .i64 (0),.int .i64 (0),.int .i64 (0),.int .i64 (0),.nils,.nils,.int .i64 (0),.int .i64 (0),.int .i64 (0),.int .i64 (0),.int .i64 (0),.nils,.int .i64 (0),.int .i64 (0)]),some (.recd (.cons (.recd (.cons (.recd (.cons (.int .i64) (.cons (.int .i64) .nil))) (.cons (.int .i64) (.cons (.int .i64) (.cons (.int .i64) (.cons (.sl (.int .i64)) (.cons (.sl (.int .i64)) .nil))))))) (.cons (.recd (.cons (.int .i64) (.cons (.int .i64) (.cons (.int .i64) (.cons (.int .i64) (.cons (.int .i64) .nil)))))) (.cons (.sl (.recd (.cons (.int .i64) (.cons (.int .i64) (.cons (.int .i64) .nil))))) (.cons (.int .i64) (.cons (.int .i64) .nil))))))⟩),
 (222,⟨.other,1,8,some (.nilfn),none⟩),
 (223,⟨.other,1,8,some (.nilfn),none⟩),
 (224,⟨.other,1,8,some (.nilfn),none⟩),
 (225,⟨.recd [(0,42)],1,8,some (.agg [.int .i64 (0)]),some (.recd (.cons (.int .i64) .nil))⟩),
 (226,⟨.recd [(0,42)],1,8,some (.agg [.int .i64 (0)]),some (.recd (.cons (.int .i64) .nil))⟩),
 (227,⟨.other,1,8,some (.nilfn),none⟩),
 (228,⟨.other,1,8,some (.nilfn),none⟩),
 (229,⟨.other,1,8,some (.nilfn),none⟩),
 (230,⟨.other,1,8,some (.nilfn),none⟩),
 (231,⟨.other,1,8,some (.nilfn),none⟩),
 (232,⟨.other,1,8,some (.nilfn),none⟩),
 (233,⟨.other,1,8,some (.nilfn),none⟩),
 (234,⟨.other,1,8,some (.nilfn),none⟩),
 (235,⟨.recd [(0,3),(1,3),(2,3)],3,24,some (.agg [.int .i64 (0),.int .i64 (0),.int .i64 (0)]),some (.recd (.cons (.int .i64) (.cons (.int .i64) (.cons (.int .i64) .nil))))⟩),
 (236,⟨.recd [(0,3),(1,3),(2,3)],3,24,some (.agg [.int .i64 (0),.int .i64 (0),.int .i64 (0)]),some (.recd (.cons (.int .i64) (.cons (.int .i64) (.cons (.int .i64) .nil))))⟩),
 (237,⟨.other,1,8,some (.nilfn),none⟩),
 (238,⟨.other,1,8,some (.nilfn),none⟩),
 (239,⟨.other,1,8,some (.nilfn),none⟩),
 (240,⟨.other,1,8,some (.nilfn),none⟩),
 (241,⟨.other,1,8,some (.nilfn),none⟩),
 (242,⟨.other,1,8,some (.nilfn),none⟩),
 (243,⟨.other,1,8,some (.nilfn),none⟩),
 (244,⟨.other,1,8,some (.nilfn),none⟩),
 (245,⟨.other,1,0,none,none⟩),
 (246,⟨.other,1,8,some (.nilfn),none⟩),
 (247,⟨.other,1,8,some (.nilfn),none⟩),
 (248,⟨.other,1,8,some (.nilfn),none⟩),
 (249,⟨.other,1,8,some (.nilfn),none⟩),
 (250,⟨.other,1,8,some (.nilfn),none⟩),
 (251,⟨.other,1,8,some (.nilfn),none⟩),
 (252,⟨.other,1,0,none,none⟩),
 (253,⟨.other,1,8,some (.nilfn),none⟩),
 (254,⟨.other,1,8,some (.nilfn),none⟩),
 (255,⟨.other,1,8,some (.nilfn),none⟩),
 (256,⟨.other,1,8,some (.nilfn),none⟩),
 (257,⟨.other,1,8,some (.nilfn),none⟩),
 (258,⟨.other,1,8,some (.nilfn),none⟩),
 (259,⟨.other,1,8,some (.nilfn),none⟩),
 (260,⟨.other,1,8,some (.nilfn),none⟩),
 (261,⟨.other,1,8,some (.nilfn),none⟩),
 (262,⟨.other,1,0,none,none⟩),
 (263,⟨.other,1,8,some (.nilfn),none⟩),
 (264,⟨.other,1,8,some (.nilfn),none⟩),
 (265,⟨.other,1,8,some (.nilfn),none⟩),
 (266,⟨.other,1,8,some (.nilfn),none⟩),
 (267,⟨.other,1,8,some (.nilfn),none⟩),
 (268,⟨.other,1,8,some (.nilfn),none⟩),
 (269,⟨.other,1,8,some (.nilfn),none⟩),
 (270,⟨.other,1,8,some (.nilfn),none⟩),
 (271,⟨.other,1,8,some (.nilfn),none⟩),
 (272,⟨.other,1,8,some (.nilfn),none⟩),
 (273,⟨.other,1,8,some (.nilfn),none⟩),
 (274,⟨.other,1,0,none,none⟩),
 (275,⟨.other,1,8,some (.nilfn),none⟩),
 (276,⟨.other,1,8,some (.nilfn),none⟩),
 (277,⟨.other,1,8,some (.nilfn),none⟩),
 (278,⟨.other,1,8,some (.nilfn),none⟩),
 (279,⟨.other,1,8,some (.nilfn),none⟩),
 (280,⟨.other,1,8,some (.nilpt),none⟩),
 (281,⟨.other,1,8,some (.nilfn),none⟩),
 (282,⟨.other,1,8,some (.nilfn),none⟩),
 (283,⟨.other,1,8,some (.nilfn),none⟩),
 (284,⟨.arr 2 22,2,16,some (.agg [.int .i64 (0),.int .i64 (0)]),some (.recd (.cons (.int .i64) (.cons (.int .i64) .nil)))⟩),
 (285,⟨.other,1,8,some (.nilfn),none⟩),
 (286,⟨.int .i64,1,8,some (.int .i64 (0)),some (.int .i64)⟩),
 (287,⟨.other,1,0,none,none⟩),
 (288,⟨.other,1,8,some (.nilfn),none⟩),
 (289,⟨.other,1,8,some (.nilfn),none⟩),
 (290,⟨.other,1,8,some (.nilfn),none⟩),
 (291,⟨.other,1,8,some (.nilfn),none⟩),
 (292,⟨.other,1,8,some (.nilfn),none⟩),
 (293,⟨.int .u32,1,4,some (.int .u32 (0)),some (.int .u32)⟩),
 (294,⟨.other,1,8,some (.nilfn),none⟩),
 (295,⟨.other,1,8,some (.nilfn),none⟩),
 (296,⟨.other,1,8,some (.nilfn),none⟩),
 (297,⟨.other,1,8,some (.nilfn),none⟩),
 (298,⟨.other,1,8,some (.nilpt),none⟩),
 (299,⟨.recd [(0,3),(1,3),(2,3)],3,24,some (.agg [.int .i64 (0),.int .i64 (0),.int .i64 (0)]),some (.recd (.cons (.int .i64) (.cons (.int .i64) (.cons (.int .i64) .nil))))⟩),
 (300,⟨.recd [(0,3),(1,3),(2,3)],3,24,some (.agg [.int .i64 (0),.int .i64 (0),.int .i64 (0)]),some (.recd (.cons (.int .i64) (.cons (.int .i64) (.cons (.int .i64) .nil))))⟩),
 (301,⟨.other,1,8,some (.nilfn),none⟩),
 (302,⟨.other,1,8,some (.nilfn),none⟩),
 (303,⟨.other,1,8,some (.nilfn),none⟩),
 (304,⟨.other,1,8,some (.nilfn),none⟩),
 (305,⟨.other,1,8,some (.nilfn),none⟩),
 (306,⟨.other,1,8,some (.nilfn),none⟩),
 (307,⟨.other,1,8,some (.nilfn),none⟩),
 (308,⟨.other,1,8,some (.nilfn),none⟩),
 (309,⟨.int .u64,1,8,some (.int .u64 (0)),some (.int .u64)⟩),
 (310,⟨.other,1,8,some (.nilfn),none⟩),
 (311,⟨.other,1,8,some (.nilfn),none⟩),
 (312,⟨.other,1,8,some (.nilpt),none⟩),
 (313,⟨.other,1,8,some (.nilfn),none⟩),
 (314,⟨.other,1,8,some (.nilfn),none⟩),
 (315,⟨.other,1,0,none,none⟩),
 (316,⟨.other,1,8,some (.nilfn),none⟩),
 (317,⟨.other,1,8,some (.nilfn),none⟩),
 (318,⟨.other,1,0,none,none⟩),
 (319,⟨.other,1,8,some (.nilfn),none⟩),
 (320,⟨.other,1,0,none,none⟩),
 (321,⟨.other,1,8,some (.nilfn),none⟩),
 (322,⟨.other,1,8,some (.nilfn),none⟩),
 (323,⟨.other,1,8,some (.nilfn),none⟩),
 (324,⟨.other,1,8,some (.nilfn),none⟩),
 (325,⟨.other,1,8,some (.nilfn),none⟩),
 (326,⟨.other,1,8,some (.nilfn),none⟩),
 (327,⟨.other,1,8,some (.nilfn),none⟩),
 (328,⟨.other,1,8,some (.nilfn),none⟩),
 (329,⟨.other,1,8,some (.nilfn),none⟩),
 (330,⟨.ifc,1,16,some (.nilif),none⟩),
 (331,⟨.ifc,1,16,some (.nilif),none⟩),
 (332,⟨.other,1,8,some (.nilpt),none⟩),
 (333,⟨.other,1,8,some (.nilfn),none⟩),
 (334,⟨.other,1,8,some (.nilfn),none⟩),
 (335,⟨.recd [(0,27),(7,29)],12,128,some (.agg [.int .i64 (0),.int .i64 (0),.int .i64 (0),.int .i64 (0),.int .i64 (0),.nils,.nils,.int .i64 (0),.int .i64 (0),.int .i64 (0),.int .i64 (0),.int .i64 (0)]),some (.recd (.cons (.recd (.cons (.recd (.cons (.int .i64) (.cons (.int .i64) .nil))) (.cons (.int .i64) (.cons (.int .i64) (.cons (.int .i64) (.cons (.sl (.int .i64)) (.cons (.sl (.int .i64)) .nil))))))) (.cons (.recd (.cons (.int .i64) (.cons (.int .i64) (.cons (.int .i64) (.cons (.int .i64) (.cons (.int .i64) .nil)))))) .nil)))⟩),
 (336,⟨.recd [(0,27),(7,29)],12,128,some (.agg [.int .i64 (0),.int .i64 (0),.int .i64 (0),.int .i64 (0),.int .i64 (0),.nils,.nils,.int .i64 (0),.int .i64 (0),.int .i64 (0),.int .i64 (0),.int .i64 (0)]),some (.recd (.cons (.recd (.cons (.recd (.cons (.int .i64) (.cons (.int .i64) .nil))) (.cons (.int .i64) (.cons (.int .i64) (.cons (.int .i64) (.cons (.sl (.int .i64)) (.cons (.sl (.int .i64)) .nil))))))) (.cons (.recd (.cons (.int .i64) (.cons (.int .i64) (.cons (.int .i64) (.cons (.int .i64) (.cons (.int .i64) .nil)))))) .nil)))⟩),
 (337,⟨.other,1,8,some (.nilfn),none⟩),
 (338,⟨.other,1,8,some (.nilfn),none⟩),
 (339,⟨.other,1,8,some (.nilfn),none⟩),
 (340,⟨.other,1,8,some (.nilfn),none⟩),
 (341,⟨.other,1,8,some (.nilfn),none⟩),
 (342,⟨.other,1,8,some (.nilfn),none⟩),
 (343,⟨.other,1,8,some (.nilfn),none⟩),
 (344,⟨.other,1,8,some (.nilfn),none⟩),
 (345,⟨.other,1,0,none,none⟩),
 (346,⟨.other,1,8,some (.nilfn),none⟩),
 (347,⟨.other,1,8,some (.nilfn),none⟩),
 (348,⟨.other,1,8,some (.nilfn),none⟩),
 (349,⟨.other,1,8,some (.nilfn),none⟩),
 (350,⟨.recd [(0,42)],1,8,some (.agg [.int .i64 (0)]),some (.recd (.cons (.int .i64) .nil))⟩),
 (351,⟨.recd [(0,42)],1,8,some (.agg [.int .i64 (0)]),some (.recd (.cons (.int .i64) .nil))⟩),
 (352,⟨.other,1,0,none,none⟩),
 (353,⟨.other,1,8,some (.nilfn),none⟩),
 (354,⟨.other,1,8,some (.nilfn),none⟩),
 (355,⟨.other,1,8,some (.nilfn),none⟩),
 (356,⟨.other,1,0,none,none⟩),
 (357,⟨.other,1,8,some (.nilfn),none⟩),
 (358,⟨.arr 3 134,3,24,some (.agg [.int .u64 (0),.int .u64 (0),.int .u64 (0)]),some (.recd (.cons (.int .u64) (.cons (.int .u64) (.cons (.int .u64) .nil))))⟩),
 (359,⟨.other,1,8,some (.nilfn),none⟩),
 (360,⟨.other,1,8,some (.nilfn),none⟩),
 (361,⟨.other,1,8,some (.nilpt),none⟩),
 (362,⟨.other,1,8,some (.nilfn),none⟩),
 (365,⟨.arr 0 16,0,0,some (.agg []),some (.recd .nil)⟩),
 (368,⟨.int .u8,1,1,some (.int .u8 (0)),some (.int .u8)⟩),
 (369,⟨.int .u8,1,1,some (.int .u8 (0)),some (.int .u8)⟩),
 (370,⟨.other,1,8,some (.nilfn),none⟩),
 (371,⟨.other,1,8,some (.nilpt),none⟩),
 (372,⟨.int .i32,1,4,some (.int .i32 (0)),some (.int .i32)⟩),
 (373,⟨.int .i32,1,4,some (.int .i32 (0)),some (.int .i32)⟩),
 (376,⟨.recd [(0,9)],1,16,some (.agg [.str ByteArray.empty]),some (.recd (.cons .str .nil))⟩),
 (377,⟨.recd [(0,9)],1,16,some (.agg [.str ByteArray.empty]),some (.recd (.cons .str .nil))⟩),
 (378,⟨.other,1,8,some (.nilpt),none⟩)]
theorem tabOk:TabOk Tryz.prog tab:=tab_ok rfl (by kernel_rfl)
open Go.RowKit
def AVal.v0:AVal→Value
 |.int k n=>.int k n
 |.bool b=>.bool b
 |.str s=>.string s
 |.fn f []=>.func (.func f) #[] #[]
 |_=>.nilIface
def AVal.v1:AVal→Value
 |.agg cs=>.agg (cs.map AVal.v0).toArray
 |v=>v.v0
def AVal.v2:AVal→Value
 |.tup cs=>.tuple (cs.map AVal.v1).toArray
 |.ifc t v=>.iface t v.v1
 |v=>v.v1
def AVal.p0:AVal→Bool
 |.int _ _|.bool _|.str _|.fn _ []=>true
 |_=>false
def AVal.p1:AVal→Bool
 |.agg cs=>cs.all AVal.p0
 |v=>v.p0
def AVal.p2:AVal→Bool
 |.tup cs=>cs.all AVal.p1
 |.ifc _ v=>v.p1
 |v=>v.p1
theorem rep_p0 {h g w} {v:AVal} {x:Value} (r:Rep h g w v x) (hp:v.p0=true):x=v.v0:=by
 cases r<;>first|(simp[AVal.p0] at hp; done)|rfl|skip
 rename_i f cs arr hl _
 cases cs with
 |nil=>
  have:arr=#[]:=Array.eq_empty_of_size_eq_zero hl.symm
  subst this; rfl
 |cons a b=>simp[AVal.p0] at hp
theorem rep_p1 {h g w} {v:AVal} {x:Value} (r:Rep h g w v x) (hp:v.p1=true):x=v.v1:=by
 cases r with
 |agg cs arr hl hr=>
  simp only[AVal.v1,Value.agg.injEq]
  apply Array.ext
  ·simp[hl]
  ·intro j h1 h2
   have hj:j<cs.length:=by simpa using h2
   have:=rep_p0 (hr j cs[j] arr[j] (List.getElem?_eq_getElem hj) (Array.getElem?_eq_getElem h1)) (List.all_eq_true.1 hp _ (List.getElem_mem hj))
   rw[this]; simp
 |any v=>simp[AVal.p1,AVal.p0] at hp
 |undef=>simp[AVal.p1,AVal.p0] at hp
 |int k n=>rfl
 |bool b=>rfl
 |str b=>rfl
 |fn f cs arr hl hr=>exact rep_p0 (.fn f cs arr hl hr) hp
 |_=>simp[AVal.p1,AVal.p0] at hp
theorem rep_v0 {h g w} {v:AVal} (hp:v.p0=true):Rep h g w v v.v0:=by
 cases v<;>first|(simp[AVal.p0] at hp; done)|constructor|skip
 rename_i f cs
 cases cs with
 |nil=>exact .fn f [] #[] rfl fun j c x hc=>by simp at hc
 |cons a b=>simp[AVal.p0] at hp
theorem rep_v1 {h g w} {v:AVal} (hp:v.p1=true):Rep h g w v v.v1:=by
 unfold AVal.p1 at hp
 split at hp
 ·rename_i cs
  refine .agg cs _ (by simp) fun j c x hc hx=>?_
  have hj:=(List.getElem?_eq_some_iff.1 hc).1
  simp[hc] at hx
  subst hx
  exact rep_v0 (List.all_eq_true.1 hp c (List.mem_of_getElem? hc))
 ·rename_i hn
  have:v.v1=v.v0:=by unfold AVal.v1; split<;>first|rfl|exact absurd rfl (hn _)
  rw[this]; exact rep_v0 hp
theorem rep_v2 {h g w} {v:AVal} (hp:v.p2=true):Rep h g w v v.v2:=by
 unfold AVal.p2 at hp
 split at hp
 ·rename_i cs
  refine .tup cs _ (by simp) fun j c x hc hx=>?_
  simp[hc] at hx
  subst hx
  exact rep_v1 (List.all_eq_true.1 hp c (List.mem_of_getElem? hc))
 ·rename_i t v
  exact .ifc t v _ (rep_v1 hp)
 ·rename_i h1 h2
  have:v.v2=v.v1:=by unfold AVal.v2; split<;>first|rfl|exact absurd rfl (h1 _)|exact absurd rfl (h2 _ _)
  rw[this]; exact rep_v1 hp
theorem reps_p1 {h g w} {args:List AVal} {cargs:Array Value} (hl:args.length=cargs.size) (hr:∀(j:Nat) c x,args[j]?=some c→cargs[j]?=some x→Rep h g w c x) (hp:args.all AVal.p1=true):cargs=(args.map AVal.v1).toArray:=by
 apply Array.ext
 ·simp[hl]
 ·intro j h1 h2
  have hj:j<args.length:=by simpa using h2
  have:=rep_p1 (hr j args[j] cargs[j] (List.getElem?_eq_getElem hj) (Array.getElem?_eq_getElem h1)) (List.all_eq_true.1 hp _ (List.getElem_mem hj))
  rw[this]; simp
def AOut.plain:AOut→Bool
 |.ret v=>v.p2
 |.pan v=>v.p2
def AOut.ending:AOut→Ending
 |.ret v=>.returned v.v2
 |.pan v=>.panicked [{ v:=v.v2,recovered:=false }]
def extS (S:Fsp) (_:Cv):Cv:=fun _ v args h k=>
 match v with
 |.fn _ []=>S _ args fun o=>
  match o with
  |.ret r=>k .normal r h
  |.pan _=>none
 |_=>none
theorem ext_at {P:Program} {f:FuncId} {S:Fsp} (hn:∀(α:Type) args (k:AOut→Option α),S α args k=(S AOut args some).bind k)
  (hF:∀args out,S AOut args some=some out→∃r,out=.ret r∧(∃c,args[0]?=some c∧∀f cs,c≠.fn f cs)∧args.all AVal.p1=true∧r.p2=true∧∀w,(callFunc f (args.map AVal.v1).toArray).run P w=.ok (.value r.v2) w) (cv:Cv) (_:CvOk P cv) (caps:List AVal):CvAt P (extS S cv) (.fn f caps) where
 nat:=fun α args h k=>by
  unfold extS
  cases caps with
  |nil=>
   simp only
   rw[hn,hn _ _ fun o=>match o with|.ret r=>tripE .normal r h|.pan _=>none]
   cases S AOut args some with
   |none=>rfl
   |some o=>cases o<;>rfl
  |cons a b=>rfl
 ok:=fun args h x u h1 hk K g w fv cargs s hfv hl hr=>by
  unfold extS at hk
  cases caps with
  |cons a b=>cases hk
  |nil=>
   simp only at hk
   rw[hn] at hk
   cases hq:S AOut args some with
   |none=>rw[hq] at hk; cases hk
   |some o=>
    obtain⟨r,rfl,⟨c0,e0,e0'⟩,e1,e2,e3⟩:=hF args _ hq
    rw[hq] at hk
    cases hk
    have hc:=reps_p1 hl hr e1
    have hfv':=rep_p1 hfv rfl
    subst hfv'
    refine .inr (.inr ⟨f,#[],_,rfl,?_,?_,g,s,.refl,_,rfl,rep_v2 e2⟩)
    ·rw[hc]
     refine⟨c0.v1,by simp[e0],fun a b c=>?_⟩
     have hp:=List.all_eq_true.1 e1 c0 (List.mem_of_getElem? e0)
     cases c0<;>simp[AVal.v1,AVal.v0]
     exact absurd rfl (e0' _ _)
    ·rw[Array.append_empty,hc]; exact e3 w
def lookF:List (Nat × Func)→Nat→Option Func
 | [],_=>none
 |(u,e)::r,t=>if t=u then some e else lookF r t
def AllFn (P:Program):List (Nat × Func)→Prop
 | []=>True
 |(u,e)::r=>FnOk P u e∧AllFn P r
theorem allCons {P:Program} {u:Nat} {e:Func} {l:List (Nat × Func)} (h:FnOk P u e) (r:AllFn P l):AllFn P ((u,e)::l):=⟨h,r⟩
theorem look_ok {P:Program}:∀ {l:List (Nat × Func)},AllFn P l→∀f fn,lookF l f=some fn→FnOk P f fn
 | [],_,f,fn,h=>by cases h
 |(u,e)::r,ha,f,fn,h=>by
  simp only[lookF] at h
  split at h
  ·rename_i e1; cases h; subst e1; exact ha.1
  ·exact look_ok ha.2 f fn h
noncomputable def fnsT:List (Nat × Func):=[(4,Tryz.f4),(10,Tryz.f10),(13,Tryz.f13),(14,Tryz.f14),(15,Tryz.f15),(16,Tryz.f16),(17,Tryz.f17),(18,Tryz.f18),(19,Tryz.f19),(20,Tryz.f20),(21,Tryz.f21),(22,Tryz.f22),(26,Tryz.f26),(27,Tryz.f27),(28,Tryz.f28),(29,Tryz.f29),(30,Tryz.f30),(33,Tryz.f33),(34,Tryz.f34),(35,Tryz.f35),(38,Tryz.f38),(39,Tryz.f39),(40,Tryz.f40),(43,Tryz.f43),(46,Tryz.f46),(47,Tryz.f47),(48,Tryz.f48),(49,Tryz.f49),(50,Tryz.f50),(51,Tryz.f51),(52,Tryz.f52),(53,Tryz.f53),(54,Tryz.f54),(55,Tryz.f55),(56,Tryz.f56),(57,Tryz.f57),(58,Tryz.f58),(59,Tryz.f59),(65,Tryz.f65),(67,Tryz.f67),(68,Tryz.f68),(69,Tryz.f69),(70,Tryz.f70),(71,Tryz.f71),(72,Tryz.f72),(73,Tryz.f73),(74,Tryz.f74),(75,Tryz.f75),(76,Tryz.f76),(77,Tryz.f77),(78,Tryz.f78),(80,Tryz.f80),(85,Tryz.f85),(86,Tryz.f86),(87,Tryz.f87),(88,Tryz.f88),(89,Tryz.f89),(90,Tryz.f90),(91,Tryz.f91),(92,Tryz.f92),(100,Tryz.f100),(101,Tryz.f101),(102,Tryz.f102),(103,Tryz.f103),(104,Tryz.f104),(105,Tryz.f105),(106,Tryz.f106),(107,Tryz.f107),(116,Tryz.f116),(117,Tryz.f117),(118,Tryz.f118),(119,Tryz.f119),(120,Tryz.f120),(121,Tryz.f121),(122,Tryz.f122),(123,Tryz.f123),(124,Tryz.f124),(125,Tryz.f125),(126,Tryz.f126),(127,Tryz.f127),(128,Tryz.f128),(129,Tryz.f129),(130,Tryz.f130),(131,Tryz.f131),(133,Tryz.f133),(138,Tryz.f138),(139,Tryz.f139),(140,Tryz.f140),(141,Tryz.f141),(142,Tryz.f142),(143,Tryz.f143),(144,Tryz.f144),(145,Tryz.f145),(146,Tryz.f146),(147,Tryz.f147),(155,Tryz.f155),(156,Tryz.f156),(157,Tryz.f157),(158,Tryz.f158),(159,Tryz.f159),(160,Tryz.f160),(164,Tryz.f164),(165,Tryz.f165),(166,Tryz.f166),(167,Tryz.f167),(168,Tryz.f168),(169,Tryz.f169),(170,Tryz.f170),(171,Tryz.f171),(172,Tryz.f172),(175,Tryz.f175),(176,Tryz.f176),(183,Tryz.f183),(184,Tryz.f184),(185,Tryz.f185),(186,Tryz.f186),(187,Tryz.f187),(188,Tryz.f188),(189,Tryz.f189),(194,Tryz.f194),(196,Tryz.f196),(197,Tryz.f197),(198,Tryz.f198),(199,Tryz.f199),(200,Tryz.f200),(219,Tryz.f219),(220,Tryz.f220),(221,Tryz.f221),(222,Tryz.f222),(223,Tryz.f223),(224,Tryz.f224),(225,Tryz.f225),(226,Tryz.f226),(227,Tryz.f227),(230,Tryz.f230),(231,Tryz.f231),(232,Tryz.f232),(233,Tryz.f233),(234,Tryz.f234),(235,Tryz.f235),(236,Tryz.f236),(237,Tryz.f237),(238,Tryz.f238),(243,Tryz.f243),(247,Tryz.f247),(248,Tryz.f248),(249,Tryz.f249),(250,Tryz.f250),(251,Tryz.f251),(252,Tryz.f252),(253,Tryz.f253),(254,Tryz.f254),(255,Tryz.f255),(256,Tryz.f256),(257,Tryz.f257),(258,Tryz.f258),(260,Tryz.f260),(261,Tryz.f261),(262,Tryz.f262),(263,Tryz.f263),(265,Tryz.f265),(266,Tryz.f266),(267,Tryz.f267),(268,Tryz.f268),(269,Tryz.f269),(270,Tryz.f270),(271,Tryz.f271),(272,Tryz.f272),(273,Tryz.f273),(274,Tryz.f274),(275,Tryz.f275),(276,Tryz.f276),(277,Tryz.f277),(278,Tryz.f278),(279,Tryz.f279),(280,Tryz.f280),(281,Tryz.f281),(282,Tryz.f282),(283,Tryz.f283),(284,Tryz.f284),(285,Tryz.f285),(286,Tryz.f286),(287,Tryz.f287),(288,Tryz.f288),(289,Tryz.f289),(290,Tryz.f290),(291,Tryz.f291),(292,Tryz.f292),(293,Tryz.f293),(294,Tryz.f294),(295,Tryz.f295),(297,Tryz.f297),(298,Tryz.f298),(299,Tryz.f299),(300,Tryz.f300),(301,Tryz.f301),(302,Tryz.f302),(303,Tryz.f303)]
set_option maxRecDepth 100000 in
theorem fnsT_ok:AllFn Tryz.prog fnsT:=
 allCons ⟨Tryz.func4,fun _ _=>by kernel_rfl⟩ <|
 allCons ⟨Tryz.func10,fun _ _=>by kernel_rfl⟩ <|
 allCons ⟨Tryz.func13,fun _ _=>by kernel_rfl⟩ <|
 allCons ⟨Tryz.func14,fun _ _=>by kernel_rfl⟩ <|
 allCons ⟨Tryz.func15,fun _ _=>by kernel_rfl⟩ <|
 allCons ⟨Tryz.func16,fun _ _=>by kernel_rfl⟩ <|
 allCons ⟨Tryz.func17,fun _ _=>by kernel_rfl⟩ <|
 allCons ⟨Tryz.func18,fun _ _=>by kernel_rfl⟩ <|
 allCons ⟨Tryz.func19,fun _ _=>by kernel_rfl⟩ <|
 allCons ⟨Tryz.func20,fun _ _=>by kernel_rfl⟩ <|
 allCons ⟨Tryz.func21,fun _ _=>by kernel_rfl⟩ <|
 allCons ⟨Tryz.func22,fun _ _=>by kernel_rfl⟩ <|
 allCons ⟨Tryz.func26,fun _ _=>by kernel_rfl⟩ <|
 allCons ⟨Tryz.func27,fun _ _=>by kernel_rfl⟩ <|
 allCons ⟨Tryz.func28,fun _ _=>by kernel_rfl⟩ <|
 allCons ⟨Tryz.func29,fun _ _=>by kernel_rfl⟩ <|
 allCons ⟨Tryz.func30,fun _ _=>by kernel_rfl⟩ <|
 allCons ⟨Tryz.func33,fun _ _=>by kernel_rfl⟩ <|
 allCons ⟨Tryz.func34,fun _ _=>by kernel_rfl⟩ <|
 allCons ⟨Tryz.func35,fun _ _=>by kernel_rfl⟩ <|
 allCons ⟨Tryz.func38,fun _ _=>by kernel_rfl⟩ <|
 allCons ⟨Tryz.func39,fun _ _=>by kernel_rfl⟩ <|
 allCons ⟨Tryz.func40,fun _ _=>by kernel_rfl⟩ <|
 allCons ⟨Tryz.func43,fun _ _=>by kernel_rfl⟩ <|
 allCons ⟨Tryz.func46,fun _ _=>by kernel_rfl⟩ <|
 allCons ⟨Tryz.func47,fun _ _=>by kernel_rfl⟩ <|
 allCons ⟨Tryz.func48,fun _ _=>by kernel_rfl⟩ <|
 allCons ⟨Tryz.func49,fun _ _=>by kernel_rfl⟩ <|
 allCons ⟨Tryz.func50,fun _ _=>by kernel_rfl⟩ <|
 allCons ⟨Tryz.func51,fun _ _=>by kernel_rfl⟩ <|
 allCons ⟨Tryz.func52,fun _ _=>by kernel_rfl⟩ <|
 allCons ⟨Tryz.func53,fun _ _=>by kernel_rfl⟩ <|
 allCons ⟨Tryz.func54,fun _ _=>by kernel_rfl⟩ <|
 allCons ⟨Tryz.func55,fun _ _=>by kernel_rfl⟩ <|
 allCons ⟨Tryz.func56,fun _ _=>by kernel_rfl⟩ <|
 allCons ⟨Tryz.func57,fun _ _=>by kernel_rfl⟩ <|
 allCons ⟨Tryz.func58,fun _ _=>by kernel_rfl⟩ <|
 allCons ⟨Tryz.func59,fun _ _=>by kernel_rfl⟩ <|
 allCons ⟨Tryz.func65,fun _ _=>by kernel_rfl⟩ <|
 allCons ⟨Tryz.func67,fun _ _=>by kernel_rfl⟩ <|
 allCons ⟨Tryz.func68,fun _ _=>by kernel_rfl⟩ <|
 allCons ⟨Tryz.func69,fun _ _=>by kernel_rfl⟩ <|
 allCons ⟨Tryz.func70,fun _ _=>by kernel_rfl⟩ <|
 allCons ⟨Tryz.func71,fun _ _=>by kernel_rfl⟩ <|
 allCons ⟨Tryz.func72,fun _ _=>by kernel_rfl⟩ <|
 allCons ⟨Tryz.func73,fun _ _=>by kernel_rfl⟩ <|
 allCons ⟨Tryz.func74,fun _ _=>by kernel_rfl⟩ <|
 allCons ⟨Tryz.func75,fun _ _=>by kernel_rfl⟩ <|
 allCons ⟨Tryz.func76,fun _ _=>by kernel_rfl⟩ <|
 allCons ⟨Tryz.func77,fun _ _=>by kernel_rfl⟩ <|
 allCons ⟨Tryz.func78,fun _ _=>by kernel_rfl⟩ <|
 allCons ⟨Tryz.func80,fun _ _=>by kernel_rfl⟩ <|
 allCons ⟨Tryz.func85,fun _ _=>by kernel_rfl⟩ <|
 allCons ⟨Tryz.func86,fun _ _=>by kernel_rfl⟩ <|
 allCons ⟨Tryz.func87,fun _ _=>by kernel_rfl⟩ <|
 allCons ⟨Tryz.func88,fun _ _=>by kernel_rfl⟩ <|
 allCons ⟨Tryz.func89,fun _ _=>by kernel_rfl⟩ <|
 allCons ⟨Tryz.func90,fun _ _=>by kernel_rfl⟩ <|
 allCons ⟨Tryz.func91,fun _ _=>by kernel_rfl⟩ <|
 allCons ⟨Tryz.func92,fun _ _=>by kernel_rfl⟩ <|
 allCons ⟨Tryz.func100,fun _ _=>by kernel_rfl⟩ <|
 allCons ⟨Tryz.func101,fun _ _=>by kernel_rfl⟩ <|
 allCons ⟨Tryz.func102,fun _ _=>by kernel_rfl⟩ <|
 allCons ⟨Tryz.func103,fun _ _=>by kernel_rfl⟩ <|
 allCons ⟨Tryz.func104,fun _ _=>by kernel_rfl⟩ <|
 allCons ⟨Tryz.func105,fun _ _=>by kernel_rfl⟩ <|
 allCons ⟨Tryz.func106,fun _ _=>by kernel_rfl⟩ <|
 allCons ⟨Tryz.func107,fun _ _=>by kernel_rfl⟩ <|
 allCons ⟨Tryz.func116,fun _ _=>by kernel_rfl⟩ <|
 allCons ⟨Tryz.func117,fun _ _=>by kernel_rfl⟩ <|
 allCons ⟨Tryz.func118,fun _ _=>by kernel_rfl⟩ <|
 allCons ⟨Tryz.func119,fun _ _=>by kernel_rfl⟩ <|
 allCons ⟨Tryz.func120,fun _ _=>by kernel_rfl⟩ <|
 allCons ⟨Tryz.func121,fun _ _=>by kernel_rfl⟩ <|
 allCons ⟨Tryz.func122,fun _ _=>by kernel_rfl⟩ <|
 allCons ⟨Tryz.func123,fun _ _=>by kernel_rfl⟩ <|
 allCons ⟨Tryz.func124,fun _ _=>by kernel_rfl⟩ <|
 allCons ⟨Tryz.func125,fun _ _=>by kernel_rfl⟩ <|
 allCons ⟨Tryz.func126,fun _ _=>by kernel_rfl⟩ <|
 allCons ⟨Tryz.func127,fun _ _=>by kernel_rfl⟩ <|
 allCons ⟨Tryz.func128,fun _ _=>by kernel_rfl⟩ <|
 allCons ⟨Tryz.func129,fun _ _=>by kernel_rfl⟩ <|
 allCons ⟨Tryz.func130,fun _ _=>by kernel_rfl⟩ <|
 allCons ⟨Tryz.func131,fun _ _=>by kernel_rfl⟩ <|
 allCons ⟨Tryz.func133,fun _ _=>by kernel_rfl⟩ <|
 allCons ⟨Tryz.func138,fun _ _=>by kernel_rfl⟩ <|
 allCons ⟨Tryz.func139,fun _ _=>by kernel_rfl⟩ <|
 allCons ⟨Tryz.func140,fun _ _=>by kernel_rfl⟩ <|
 allCons ⟨Tryz.func141,fun _ _=>by kernel_rfl⟩ <|
 allCons ⟨Tryz.func142,fun _ _=>by kernel_rfl⟩ <|
 allCons ⟨Tryz.func143,fun _ _=>by kernel_rfl⟩ <|
 allCons ⟨Tryz.func144,fun _ _=>by kernel_rfl⟩ <|
 allCons ⟨Tryz.func145,fun _ _=>by kernel_rfl⟩ <|
 allCons ⟨Tryz.func146,fun _ _=>by kernel_rfl⟩ <|
 allCons ⟨Tryz.func147,fun _ _=>by kernel_rfl⟩ <|
 allCons ⟨Tryz.func155,fun _ _=>by kernel_rfl⟩ <|
 allCons ⟨Tryz.func156,fun _ _=>by kernel_rfl⟩ <|
 allCons ⟨Tryz.func157,fun _ _=>by kernel_rfl⟩ <|
 allCons ⟨Tryz.func158,fun _ _=>by kernel_rfl⟩ <|
 allCons ⟨Tryz.func159,fun _ _=>by kernel_rfl⟩ <|
 allCons ⟨Tryz.func160,fun _ _=>by kernel_rfl⟩ <|
 allCons ⟨Tryz.func164,fun _ _=>by kernel_rfl⟩ <|
 allCons ⟨Tryz.func165,fun _ _=>by kernel_rfl⟩ <|
 allCons ⟨Tryz.func166,fun _ _=>by kernel_rfl⟩ <|
 allCons ⟨Tryz.func167,fun _ _=>by kernel_rfl⟩ <|
 allCons ⟨Tryz.func168,fun _ _=>by kernel_rfl⟩ <|
 allCons ⟨Tryz.func169,fun _ _=>by kernel_rfl⟩ <|
 allCons ⟨Tryz.func170,fun _ _=>by kernel_rfl⟩ <|
 allCons ⟨Tryz.func171,fun _ _=>by kernel_rfl⟩ <|
 allCons ⟨Tryz.func172,fun _ _=>by kernel_rfl⟩ <|
 allCons ⟨Tryz.func175,fun _ _=>by kernel_rfl⟩ <|
 allCons ⟨Tryz.func176,fun _ _=>by kernel_rfl⟩ <|
 allCons ⟨Tryz.func183,fun _ _=>by kernel_rfl⟩ <|
 allCons ⟨Tryz.func184,fun _ _=>by kernel_rfl⟩ <|
 allCons ⟨Tryz.func185,fun _ _=>by kernel_rfl⟩ <|
 allCons ⟨Tryz.func186,fun _ _=>by kernel_rfl⟩ <|
 allCons ⟨Tryz.func187,fun _ _=>by kernel_rfl⟩ <|
 allCons ⟨Tryz.func188,fun _ _=>by kernel_rfl⟩ <|
 allCons ⟨Tryz.func189,fun _ _=>by kernel_rfl⟩ <|
 allCons ⟨Tryz.func194,fun _ _=>by kernel_rfl⟩ <|
 allCons ⟨Tryz.func196,fun _ _=>by kernel_rfl⟩ <|
 allCons ⟨Tryz.func197,fun _ _=>by kernel_rfl⟩ <|
 allCons ⟨Tryz.func198,fun _ _=>by kernel_rfl⟩ <|
 allCons ⟨Tryz.func199,fun _ _=>by kernel_rfl⟩ <|
 allCons ⟨Tryz.func200,fun _ _=>by kernel_rfl⟩ <|
 allCons ⟨Tryz.func219,fun _ _=>by kernel_rfl⟩ <|
 allCons ⟨Tryz.func220,fun _ _=>by kernel_rfl⟩ <|
 allCons ⟨Tryz.func221,fun _ _=>by kernel_rfl⟩ <|
 allCons ⟨Tryz.func222,fun _ _=>by kernel_rfl⟩ <|
 allCons ⟨Tryz.func223,fun _ _=>by kernel_rfl⟩ <|
 allCons ⟨Tryz.func224,fun _ _=>by kernel_rfl⟩ <|
 allCons ⟨Tryz.func225,fun _ _=>by kernel_rfl⟩ <|
 allCons ⟨Tryz.func226,fun _ _=>by kernel_rfl⟩ <|
 allCons ⟨Tryz.func227,fun _ _=>by kernel_rfl⟩ <|
 allCons ⟨Tryz.func230,fun _ _=>by kernel_rfl⟩ <|
 allCons ⟨Tryz.func231,fun _ _=>by kernel_rfl⟩ <|
 allCons ⟨Tryz.func232,fun _ _=>by kernel_rfl⟩ <|
 allCons ⟨Tryz.func233,fun _ _=>by kernel_rfl⟩ <|
 allCons ⟨Tryz.func234,fun _ _=>by kernel_rfl⟩ <|
 allCons ⟨Tryz.func235,fun _ _=>by kernel_rfl⟩ <|
 allCons ⟨Tryz.func236,fun _ _=>by kernel_rfl⟩ <|
 allCons ⟨Tryz.func237,fun _ _=>by kernel_rfl⟩ <|
 allCons ⟨Tryz.func238,fun _ _=>by kernel_rfl⟩ <|
 allCons ⟨Tryz.func243,fun _ _=>by kernel_rfl⟩ <|
 allCons ⟨Tryz.func247,fun _ _=>by kernel_rfl⟩ <|
 allCons ⟨Tryz.func248,fun _ _=>by kernel_rfl⟩ <|
 allCons ⟨Tryz.func249,fun _ _=>by kernel_rfl⟩ <|
 allCons ⟨Tryz.func250,fun _ _=>by kernel_rfl⟩ <|
 allCons ⟨Tryz.func251,fun _ _=>by kernel_rfl⟩ <|
 allCons ⟨Tryz.func252,fun _ _=>by kernel_rfl⟩ <|
 allCons ⟨Tryz.func253,fun _ _=>by kernel_rfl⟩ <|
 allCons ⟨Tryz.func254,fun _ _=>by kernel_rfl⟩ <|
 allCons ⟨Tryz.func255,fun _ _=>by kernel_rfl⟩ <|
 allCons ⟨Tryz.func256,fun _ _=>by kernel_rfl⟩ <|
 allCons ⟨Tryz.func257,fun _ _=>by kernel_rfl⟩ <|
 allCons ⟨Tryz.func258,fun _ _=>by kernel_rfl⟩ <|
 allCons ⟨Tryz.func260,fun _ _=>by kernel_rfl⟩ <|
 allCons ⟨Tryz.func261,fun _ _=>by kernel_rfl⟩ <|
 allCons ⟨Tryz.func262,fun _ _=>by kernel_rfl⟩ <|
 allCons ⟨Tryz.func263,fun _ _=>by kernel_rfl⟩ <|
 allCons ⟨Tryz.func265,fun _ _=>by kernel_rfl⟩ <|
 allCons ⟨Tryz.func266,fun _ _=>by kernel_rfl⟩ <|
 allCons ⟨Tryz.func267,fun _ _=>by kernel_rfl⟩ <|
 allCons ⟨Tryz.func268,fun _ _=>by kernel_rfl⟩ <|
 allCons ⟨Tryz.func269,fun _ _=>by kernel_rfl⟩ <|
 allCons ⟨Tryz.func270,fun _ _=>by kernel_rfl⟩ <|
 allCons ⟨Tryz.func271,fun _ _=>by kernel_rfl⟩ <|
 allCons ⟨Tryz.func272,fun _ _=>by kernel_rfl⟩ <|
 allCons ⟨Tryz.func273,fun _ _=>by kernel_rfl⟩ <|
 allCons ⟨Tryz.func274,fun _ _=>by kernel_rfl⟩ <|
 allCons ⟨Tryz.func275,fun _ _=>by kernel_rfl⟩ <|
 allCons ⟨Tryz.func276,fun _ _=>by kernel_rfl⟩ <|
 allCons ⟨Tryz.func277,fun _ _=>by kernel_rfl⟩ <|
 allCons ⟨Tryz.func278,fun _ _=>by kernel_rfl⟩ <|
 allCons ⟨Tryz.func279,fun _ _=>by kernel_rfl⟩ <|
 allCons ⟨Tryz.func280,fun _ _=>by kernel_rfl⟩ <|
 allCons ⟨Tryz.func281,fun _ _=>by kernel_rfl⟩ <|
 allCons ⟨Tryz.func282,fun _ _=>by kernel_rfl⟩ <|
 allCons ⟨Tryz.func283,fun _ _=>by kernel_rfl⟩ <|
 allCons ⟨Tryz.func284,fun _ _=>by kernel_rfl⟩ <|
 allCons ⟨Tryz.func285,fun _ _=>by kernel_rfl⟩ <|
 allCons ⟨Tryz.func286,fun _ _=>by kernel_rfl⟩ <|
 allCons ⟨Tryz.func287,fun _ _=>by kernel_rfl⟩ <|
 allCons ⟨Tryz.func288,fun _ _=>by kernel_rfl⟩ <|
 allCons ⟨Tryz.func289,fun _ _=>by kernel_rfl⟩ <|
 allCons ⟨Tryz.func290,fun _ _=>by kernel_rfl⟩ <|
 allCons ⟨Tryz.func291,fun _ _=>by kernel_rfl⟩ <|
 allCons ⟨Tryz.func292,fun _ _=>by kernel_rfl⟩ <|
 allCons ⟨Tryz.func293,fun _ _=>by kernel_rfl⟩ <|
 allCons ⟨Tryz.func294,fun _ _=>by kernel_rfl⟩ <|
 allCons ⟨Tryz.func295,fun _ _=>by kernel_rfl⟩ <|
 allCons ⟨Tryz.func297,fun _ _=>by kernel_rfl⟩ <|
 allCons ⟨Tryz.func298,fun _ _=>by kernel_rfl⟩ <|
 allCons ⟨Tryz.func299,fun _ _=>by kernel_rfl⟩ <|
 allCons ⟨Tryz.func300,fun _ _=>by kernel_rfl⟩ <|
 allCons ⟨Tryz.func301,fun _ _=>by kernel_rfl⟩ <|
 allCons ⟨Tryz.func302,fun _ _=>by kernel_rfl⟩ <|
 allCons ⟨Tryz.func303,fun _ _=>by kernel_rfl⟩ <|
 trivial
end Go.Proofs.YtpgfncncgjihpaaGreat
namespace Go.Proofs.YtpgfncncgjihpaaGreat
def okB (a:Int):Bool:=decide (-70368744177664≤a)&&decide (a≤70368744177664)
def wayB (how:Int):Bool:=decide (0≤how)&&decide (how≤3)
def rateB (n:Int):Bool:=decide (-2147483648≤n)&&decide (n≤2147483648)
def ab (x:Int):Int:=if x<0 then -x else x
def ngB (x:Int):Bool:=decide (x<0)
def sg (neg:Bool) (n:Int):Int:=bif neg then -n else n
def up1 (how:Int) (neg:Bool) (r d:Int):Bool:=decide (0<r)&&(if how=1 then neg else if how=2 then !neg else if how=3 then decide (d≤r+r) else false)
def rnd (how:Int) (neg:Bool) (n d:Int):Int:=n / d+(bif up1 how neg (n % d) d then 1 else 0)
def fxB (n:Int):Bool:=decide (n≤70368744177664)
def fxV (neg:Bool) (n:Int):Int:=bif fxB n then sg neg n else 0
def fxE (n:Int):Int:=bif fxB n then 0 else 4
theorem ab_nn (x:Int):0≤ab x:=by unfold ab; split<;>omega
theorem ok_iff {a:Int}:okB a=true↔-70368744177664≤a∧a≤70368744177664:=by simp[okB]
theorem ok_ab {a:Int} (h:okB a=true):ab a≤70368744177664:=by rw[ok_iff] at h; unfold ab; split<;>omega
theorem way_cases {how:Int} (h:wayB how=true):how=0∨how=1∨how=2∨how=3:=by simp[wayB] at h; omega
theorem rate_iff {a:Int}:rateB a=true↔-2147483648≤a∧a≤2147483648:=by simp[rateB]
theorem rnd_nn {how:Int} {neg:Bool} {n d:Int} (hn:0≤n) (hd:0<d):0≤rnd how neg n d:=by
 unfold rnd
 have:=Int.ediv_nonneg hn (Int.le_of_lt hd)
 cases up1 how neg (n % d) d<;>simp<;>omega
theorem sg_ab (x:Int):sg (ngB x) (ab x)=x:=by
 unfold sg ngB ab
 by_cases h:x<0
 ·rw[decide_eq_true h,if_pos h]; simp
 ·rw[decide_eq_false h,if_neg h]; simp
def xorB (a b:Bool):Bool:=a != b
def prN (a b how:Int):Int:=rnd how (xorB (ngB a) (ngB b)) (ab a*ab b) 65536
def scG (a n d:Int):Bool:=xorB (ngB a) (xorB (ngB n) (ngB d))
def bs (p:Nat→Bool):Nat→Nat→Nat
 |0,n=>n
 |k+1,n=>bif p (n+2^k) then bs p k (n+2^k) else bs p k n
theorem bs_spec (p:Nat→Bool) (hp:∀m n,n≤m→p m=true→p n=true):∀(k n:Nat),p n=true→p (n+2^k)=false→p (bs p k n)=true∧p (bs p k n+1)=false∧n≤bs p k n∧bs p k n<n+2^k
 |0,n,h1,h2=>⟨h1,h2,Nat.le_refl _,by simp[bs]⟩
 |k+1,n,h1,h2=>by
  have e:n+2^k+2^k=n+2^(k+1):=by rw[Nat.pow_succ]; omega
  have hpos:0<2^k:=Nat.two_pow_pos k
  simp only[bs]
  cases h:p (n+2^k)
  ·obtain⟨a,b,c,d⟩:=bs_spec p hp k n h1 h
   exact⟨a,b,c,by simp only[cond_false]; omega⟩
  ·obtain⟨a,b,c,d⟩:=bs_spec p hp k (n+2^k) h (by rw[e]; exact h2)
   exact⟨a,b,by simp only[cond_true]; omega,by simp only[cond_true]; omega⟩
def rtC (n:Int):Int:=((bs (fun m=>decide ((m:Int)*m≤n)) 63 0:Nat):Int)
theorem rt_ex:∃f:Int→Int,f=rtC:=⟨_,rfl⟩
noncomputable def rt:Int→Int:=Classical.choose rt_ex
theorem rt_C:rt=rtC:=Classical.choose_spec rt_ex
noncomputable def rtUp (a how:Int):Bool:=if how=2 then !(rt a*rt a==a) else if how=3 then decide ((2*rt a+1)*(2*rt a+1)≤4*a) else false
noncomputable def rtN (a how:Int):Int:=rt a+(bif rtUp a how then 1 else 0)
def sq2 (x y:Int):Int:=ab x*ab x+ab y*ab y
def lenB (x y how:Int):Bool:=okB x&&okB y&&wayB how
noncomputable def lenV (x y how:Int):Int:=bif lenB x y how then fxV false (rtN (sq2 x y) how) else 0
noncomputable def lenE (x y how:Int):Int:=bif lenB x y how then fxE (rtN (sq2 x y) how) else 2
def shrC (x s:Int):Int:=((bs (fun m=>decide ((m:Int)*m*s≤4294967296*(x*x))) 17 0:Nat):Int)
theorem shr_ex:∃f:Int→Int→Int,f=shrC:=⟨_,rfl⟩
noncomputable def shr:Int→Int→Int:=Classical.choose shr_ex
theorem shr_C:shr=shrC:=Classical.choose_spec shr_ex
def uniB (x y:Int):Bool:=okB x&&okB y
noncomputable def uniV (x y c:Int):Int:=bif uniB x y then (bif sq2 x y==0 then 0 else sg (ngB c) (shr (ab c) (sq2 x y))) else 0
def uniE (x y:Int):Int:=bif uniB x y then (bif sq2 x y==0 then 10 else 0) else 2
def dotS (x y u v:Int):Int:=x*u+y*v
def cmp3 (a b:Int):Int:=if a<b then -1 else if b<a then 1 else 0
def four (x y u v:Int):Bool:=okB x&&okB y&&okB u&&okB v
def witB (x y r:Int):Bool:=okB x&&okB y&&okB r
def witV (x y r:Int):Bool:=bif witB x y r then decide (0≤r)&&decide (sq2 x y≤r*r) else false
def witE (x y r:Int):Int:=bif witB x y r then 0 else 2
open Go.RowKit
theorem mixedT:Tryz.prog.follows .mixedOrders=true:=by kernel_rfl
theorem cond_bind {α β:Type} (c:Bool) (x y:Option α) (k:α→Option β):(bif c then x else y).bind k=bif c then x.bind k else y.bind k:=by cases c<;>rfl
noncomputable def twT (fs:FuncId→Option Fsp) (sp:FuncId→Option (Cv→Cv)):Tower:=⟨fs,fun _=>true,sp,lookF fnsT⟩
def SpOk (sp:FuncId→Option (Cv→Cv)):Prop:=∀f S,sp f=some S→∀cv,CvOk Tryz.prog cv→∀caps,CvAt Tryz.prog (S cv) (.fn f caps)
def FsOk (fs:FuncId→Option Fsp):Prop:=∀f S,fs f=some S→FspOk Tryz.prog f S
theorem twT_ok {fs:FuncId→Option Fsp} {sp:FuncId→Option (Cv→Cv)} (h:FsOk fs) (hs:SpOk sp):TwOk Tryz.prog (twT fs sp):=⟨h,hs,look_ok fnsT_ok⟩
theorem fs_nil:FsOk fun _=>none:=fun f S h=>by cases h
theorem fs_cons {fs:FuncId→Option Fsp} {f:FuncId} {S:Fsp} (h:FspOk Tryz.prog f S) (hE:FsOk fs):FsOk fun g=>if g=f then some S else fs g:=fun g S' hg=>by
 dsimp only at hg
 split at hg
 ·rename_i e; cases hg; subst e; exact h
 ·exact hE g S' hg
theorem sp_nil:SpOk fun _=>none:=fun f S h=>by cases h
theorem sp_cons {sp:FuncId→Option (Cv→Cv)} {f:FuncId} {S:Cv→Cv} (h:∀cv,CvOk Tryz.prog cv→∀caps,CvAt Tryz.prog (S cv) (.fn f caps)) (hE:SpOk sp):SpOk fun g=>if g=f then some S else sp g:=fun g S' hg=>by
 dsimp only at hg
 split at hg
 ·rename_i e; cases hg; subst e; exact h
 ·exact hE g S' hg
theorem tower_S {fs:FuncId→Option Fsp} {sp:FuncId→Option (Cv→Cv)} (h:FsOk fs) (hs:SpOk sp) {f:FuncId} {fn:Func} (hf:FnOk Tryz.prog f fn) {S:Fsp}
  (hn:∀(α:Type) args (k:AOut→Option α),S α args k=(S AOut args some).bind k)
  (hS:∀args out,(∀c∈args,Sm c)→S AOut args some=some out→∃N n,evFn real tab ((twT fs sp).env real tab N n) N fn AOut args some=some out):FspOk Tryz.prog f S where
 enter:=hf.enter
 nat:=hn
 calls:=fun args out hout M w cargs hM hl hr=>by
  have hsm:∀c∈args,Sm c:=fun c hc=>by
   obtain⟨j,hj,rfl⟩:=List.mem_iff_getElem.1 hc
   exact (hr j _ _ (List.getElem?_eq_getElem hj) (Array.getElem?_eq_getElem (by omega))).sm
  obtain⟨N,n,hN⟩:=hS args out hsm hout
  exact (fn_ok mixedT tabOk (tower_ok mixedT tabOk (twT_ok h hs) N n) N hf.get hf.enter).calls args out hN M w cargs hM hl hr
def cloneB (g:Nat):Bool:=
 if g=2000000+55 then true else
 false
noncomputable def twY (fs:FuncId→Option Fsp) (sp:FuncId→Option (Cv→Cv)):Tower:=⟨fs,fun g=>!(g==999961 || cloneB g),sp,lookF fnsT⟩
theorem twY_ok {fs:FuncId→Option Fsp} {sp:FuncId→Option (Cv→Cv)} (h:FsOk fs) (hs:SpOk sp):TwOk Tryz.prog (twY fs sp):=⟨h,hs,look_ok fnsT_ok⟩
theorem tower_Y {fs:FuncId→Option Fsp} {sp:FuncId→Option (Cv→Cv)} (h:FsOk fs) (hs:SpOk sp) {f:FuncId} {fn:Func} (hf:FnOk Tryz.prog f fn) {S:Fsp}
  (hn:∀(α:Type) args (k:AOut→Option α),S α args k=(S AOut args some).bind k)
  (hS:∀args out,(∀c∈args,Sm c)→S AOut args some=some out→∃N n,evFn real tab ((twY fs sp).env real tab N n) N fn AOut args some=some out):FspOk Tryz.prog f S where
 enter:=hf.enter
 nat:=hn
 calls:=fun args out hout M w cargs hM hl hr=>by
  have hsm:∀c∈args,Sm c:=fun c hc=>by
   obtain⟨j,hj,rfl⟩:=List.mem_iff_getElem.1 hc
   exact (hr j _ _ (List.getElem?_eq_getElem hj) (Array.getElem?_eq_getElem (by omega))).sm
  obtain⟨N,n,hN⟩:=hS args out hsm hout
  exact (fn_ok mixedT tabOk (tower_ok mixedT tabOk (twY_ok h hs) N n) N hf.get hf.enter).calls args out hN M w cargs hM hl hr
/-! As twY; rows that the call of a contract gives up stay readable. -/
noncomputable def twV (fs:FuncId→Option Fsp) (sp:FuncId→Option (Cv→Cv)):Tower:=⟨fs,fun g=>!(g==999961 || g==999953 || cloneB g),sp,lookF fnsT⟩
/-! As twV; rows that append makes are memory that stays. -/
noncomputable def twW (fs:FuncId→Option Fsp) (sp:FuncId→Option (Cv→Cv)):Tower:=⟨fs,fun g=>!(g==999961 || g==999953 || g==999949 || cloneB g),sp,lookF fnsT⟩
theorem twW_ok {fs:FuncId→Option Fsp} {sp:FuncId→Option (Cv→Cv)} (h:FsOk fs) (hs:SpOk sp):TwOk Tryz.prog (twW fs sp):=⟨h,hs,look_ok fnsT_ok⟩
theorem tower_W {fs:FuncId→Option Fsp} {sp:FuncId→Option (Cv→Cv)} (h:FsOk fs) (hs:SpOk sp) {f:FuncId} {fn:Func} (hf:FnOk Tryz.prog f fn) {S:Fsp}
  (hn:∀(α:Type) args (k:AOut→Option α),S α args k=(S AOut args some).bind k)
  (hS:∀args out,(∀c∈args,Sm c)→S AOut args some=some out→∃N n,evFn real tab ((twW fs sp).env real tab N n) N fn AOut args some=some out):FspOk Tryz.prog f S where
 enter:=hf.enter
 nat:=hn
 calls:=fun args out hout M w cargs hM hl hr=>by
  have hsm:∀c∈args,Sm c:=fun c hc=>by
   obtain⟨j,hj,rfl⟩:=List.mem_iff_getElem.1 hc
   exact (hr j _ _ (List.getElem?_eq_getElem hj) (Array.getElem?_eq_getElem (by omega))).sm
  obtain⟨N,n,hN⟩:=hS args out hsm hout
  exact (fn_ok mixedT tabOk (tower_ok mixedT tabOk (twW_ok h hs) N n) N hf.get hf.enter).calls args out hN M w cargs hM hl hr
/-! As twV; behind the call of tried all rows are memory that stays. -/
noncomputable def twX (fs:FuncId→Option Fsp) (sp:FuncId→Option (Cv→Cv)):Tower:=⟨fs,fun g=>!(g==999961 || g==999953 || g==999937 || cloneB g),sp,lookF fnsT⟩
theorem twX_ok {fs:FuncId→Option Fsp} {sp:FuncId→Option (Cv→Cv)} (h:FsOk fs) (hs:SpOk sp):TwOk Tryz.prog (twX fs sp):=⟨h,hs,look_ok fnsT_ok⟩
theorem tower_X {fs:FuncId→Option Fsp} {sp:FuncId→Option (Cv→Cv)} (h:FsOk fs) (hs:SpOk sp) {f:FuncId} {fn:Func} (hf:FnOk Tryz.prog f fn) {S:Fsp}
  (hn:∀(α:Type) args (k:AOut→Option α),S α args k=(S AOut args some).bind k)
  (hS:∀args out,(∀c∈args,Sm c)→S AOut args some=some out→∃N n,evFn real tab ((twX fs sp).env real tab N n) N fn AOut args some=some out):FspOk Tryz.prog f S where
 enter:=hf.enter
 nat:=hn
 calls:=fun args out hout M w cargs hM hl hr=>by
  have hsm:∀c∈args,Sm c:=fun c hc=>by
   obtain⟨j,hj,rfl⟩:=List.mem_iff_getElem.1 hc
   exact (hr j _ _ (List.getElem?_eq_getElem hj) (Array.getElem?_eq_getElem (by omega))).sm
  obtain⟨N,n,hN⟩:=hS args out hsm hout
  exact (fn_ok mixedT tabOk (tower_ok mixedT tabOk (twX_ok h hs) N n) N hf.get hf.enter).calls args out hN M w cargs hM hl hr
/-! As twY; nil slices in values that are built become rows. -/
/-! As twY; rows that are stored into are memory that stays behind their region. -/
def mis (t:TypeId) (e:Int):AOut:=.pan (.ifc t (.agg [.int .i64 e]))
abbrev iN (n:Int):AVal:=.int .i64 n
abbrev uN (n:Int):AVal:=.int .u64 n
abbrev bN (b:Bool):AVal:=.bool b
abbrev sN (x y:Int):AVal:=.agg [.int .i64 x,.int .i64 y]
def i1 (n:Int):AOut:=.ret (.int .i64 n)
def b1 (b:Bool):AOut:=.ret (.bool b)
def i2 (n e:Int):AOut:=.ret (.tup [.int .i64 n,.int .i64 e])
def b2 (b:Bool) (e:Int):AOut:=.ret (.tup [.bool b,.int .i64 e])
def s2 (x y e:Int):AOut:=.ret (.tup [.agg [.int .i64 x,.int .i64 y],.int .i64 e])
def t0:AOut:=.ret (.tup [])
def fxm:TypeId:=191
namespace MulN
theorem maskN (a:Nat) (ha:a<18446744073709551616):bits .and .u64 (a:Int) 4294967295=((a % 4294967296:Nat):Int):=by
 have h:=bits_and_u64_nat a 4294967295 ha (by omega)
 have e:a &&& 4294967295=a % 4294967296:=Nat.and_two_pow_sub_one_eq_mod a 32
 rw[e] at h
 exact h
theorem divN (a:Nat):(a:Int) / 4294967296=((a / 4294967296:Nat):Int):=by omega
theorem mulN (a b:Nat):(a:Int)*(b:Int)=((a*b:Nat):Int):=(Int.natCast_mul a b).symm
theorem addN (a b:Nat):(a:Int)+(b:Int)=((a+b:Nat):Int):=(Int.natCast_add a b).symm
theorem wrapN (a:Nat) (ha:a<18446744073709551616):IntKind.u64.wrap (a:Int)=(a:Int):=by rw[IntKind.wrap_u64]; omega
theorem wrapM (a:Nat):IntKind.u64.wrap (a:Int)=((a % 18446744073709551616:Nat):Int):=by rw[IntKind.wrap_u64]; omega
end MulN
set_option maxHeartbeats 1000000 in
theorem mul64_nat (x y:Nat) (hx:x<18446744073709551616) (hy:y<18446744073709551616) (w:World) :
  Calls Tryz.prog 125 #[.int .u64 x,.int .u64 y] w fun e w'=>e=.returned (.tuple #[.int .u64 ((x*y / 18446744073709551616:Nat):Int),.int .u64 ((x*y % 18446744073709551616:Nat):Int)])∧w=w':=by
 obtain⟨bd,bt,bw,hhi⟩:=Lib.mul64_hi x y hx hy
 have ba:=Lib.half_mul_le (a:=x / 4294967296) (b:=y / 4294967296) (by omega) (by omega)
 have bb:=Lib.half_mul_le (a:=x / 4294967296) (b:=y % 4294967296) (by omega) (by omega)
 have bc:=Lib.half_mul_le (a:=x % 4294967296) (b:=y / 4294967296) (by omega) (by omega)
 have ba':x / 4294967296*(y / 4294967296)<18446744073709551616:=by omega
 have bb':x / 4294967296*(y % 4294967296)<18446744073709551616:=by omega
 have bc':x % 4294967296*(y / 4294967296)<18446744073709551616:=by omega
 have bh1:x / 4294967296*(y / 4294967296)+(x / 4294967296*(y % 4294967296)+x % 4294967296*(y % 4294967296) / 4294967296) / 4294967296<18446744073709551616:=by omega
 have bh:x / 4294967296*(y / 4294967296)+(x / 4294967296*(y % 4294967296)+x % 4294967296*(y % 4294967296) / 4294967296) / 4294967296+((x / 4294967296*(y % 4294967296)+x % 4294967296*(y % 4294967296) / 4294967296) % 4294967296+x % 4294967296*(y / 4294967296)) / 4294967296<18446744073709551616:=by omega
 go_enter Tryz.func125,Tryz.ntmps125
 go_wp2
 simp only[MulN.maskN x hx,MulN.maskN y hy,MulN.divN,MulN.mulN,MulN.addN,MulN.wrapN _ bd,MulN.wrapN _ bb',MulN.wrapN _ bt,MulN.maskN _ bt,MulN.wrapN _ bc',MulN.wrapN _ bw,MulN.wrapN _ ba',MulN.wrapN _ bh1,MulN.wrapN _ bh,MulN.wrapM (x*y)]
 rw[hhi]
 go_ret2
 exact⟨rfl,rfl⟩
def Word (x:Int):Prop:=0≤x∧x<18446744073709551616
theorem mul64 (x y:Int) (hx:Word x) (hy:Word y) (w:World) :
  Calls Tryz.prog 125 #[.int .u64 x,.int .u64 y] w fun e w'=>e=.returned (.tuple #[.int .u64 (x*y / 18446744073709551616),.int .u64 (x*y % 18446744073709551616)])∧w=w':=by
 obtain⟨h1,h2⟩:=hx; obtain⟨h3,h4⟩:=hy
 obtain⟨x,rfl⟩:=Int.eq_ofNat_of_zero_le h1
 obtain⟨y,rfl⟩:=Int.eq_ofNat_of_zero_le h3
 exact mul64_nat x y (by omega) (by omega) w
theorem add64 (x y c:Int) (hx:0≤x) (hy:0≤y) (hc0:0≤c) (hc:c≤1) (w:World):(callFunc 239 #[.int .u64 x,.int .u64 y,.int .u64 c]).run Tryz.prog w =
  .ok (.value (.tuple #[.int .u64 ((x+y+c) % 18446744073709551616),.int .u64 ((x+y+c) / 18446744073709551616)])) w:=by
 rw[run_callFunc_extern Tryz.func239 (by kernel_rfl) (by kernel_rfl) (by kernel_rfl) (e:=add64Entry) (by kernel_rfl),run_add64 x y c hx hy hc0 hc]
 rfl
theorem len8_idx (i:Int) (h0:0≤i) (h1:i≤255) (h:i.toNat<Lib.len8tab.size):((Lib.len8tab[i.toNat]'h).toNat:Int)=Lib.bitLen i.toNat:=by
 have e:=Lib.len8_eq ⟨i.toNat,by omega⟩
 simp only[Int.toNat_of_nonneg h0,Lib.len8,ByteArray.getElem?_lt' _ _ h,Option.getD_some] at e
 exact e
theorem len_fin (x i k:Int) (h0:0≤i) (h1:i≤255) (h:i.toNat<Lib.len8tab.size) (hk0:0≤k) (hk1:k≤56) (hk:(Lib.bitLen x.toNat:Int)=k+Lib.bitLen i.toNat) :
  wrap64 (k+wrap64 ((Lib.len8tab[i.toNat]'h).toNat:Int))=Lib.bitLen x.toNat:=by
 have l:=Lib.bitLen_le8' i h0 h1
 rw[len8_idx i h0 h1 h,hk]
 unfold wrap64
 omega
theorem len_fin0 (x:Int) (h0:0≤x) (h1:x≤255) (h:x.toNat<Lib.len8tab.size) :
  wrap64 (wrap64 ((Lib.len8tab[x.toNat]'h).toNat:Int))=Lib.bitLen x.toNat:=by
 have l:=Lib.bitLen_le8' x h0 h1
 rw[len8_idx x h0 h1 h]
 unfold wrap64
 omega
set_option maxHeartbeats 4000000 in
set_option maxRecDepth 100000 in
theorem len64 (x:Int) (w:World) (h0:0≤x) (h1:x≤18446744073709551615) :
  Calls Tryz.prog 220 #[.int .u64 x] w fun e w'=>e=.returned (.int .i64 (Lib.bitLen x.toNat))∧w=w':=by
 have hsz:=Lib.len8tab_size
 go_enter Tryz.func220,Tryz.ntmps220
 go_wp2
 all_goals (go_ret; refine⟨congrArg Ending.returned (congrArg (Value.int IntKind.i64) ?_),rfl⟩)
 all_goals first
  |exact len_fin x (x / 4294967296 / 65536 / 256) 56 (by omega) (by omega) _ (by omega) (by omega) (by have s:=Lib.bitLen_shift56 x.toNat (by omega) (by omega); have e:(x / 4294967296 / 65536 / 256).toNat=x.toNat / 72057594037927936:=(by omega); rw[e]; omega)
  |exact len_fin x (x / 4294967296 / 65536) 48 (by omega) (by omega) _ (by omega) (by omega) (by have s:=Lib.bitLen_shift48 x.toNat (by omega) (by omega); have e:(x / 4294967296 / 65536).toNat=x.toNat / 281474976710656:=(by omega); rw[e]; omega)
  |exact len_fin x (x / 4294967296 / 256) 40 (by omega) (by omega) _ (by omega) (by omega) (by have s:=Lib.bitLen_shift40 x.toNat (by omega) (by omega); have e:(x / 4294967296 / 256).toNat=x.toNat / 1099511627776:=(by omega); rw[e]; omega)
  |exact len_fin x (x / 4294967296) 32 (by omega) (by omega) _ (by omega) (by omega) (by have s:=Lib.bitLen_shift32 x.toNat (by omega) (by omega); have e:(x / 4294967296).toNat=x.toNat / 4294967296:=(by omega); rw[e]; omega)
  |exact len_fin x (x / 65536 / 256) 24 (by omega) (by omega) _ (by omega) (by omega) (by have s:=Lib.bitLen_shift24 x.toNat (by omega) (by omega); have e:(x / 65536 / 256).toNat=x.toNat / 16777216:=(by omega); rw[e]; omega)
  |exact len_fin x (x / 65536) 16 (by omega) (by omega) _ (by omega) (by omega) (by have s:=Lib.bitLen_shift16 x.toNat (by omega) (by omega); have e:(x / 65536).toNat=x.toNat / 65536:=(by omega); rw[e]; omega)
  |exact len_fin x (x / 256) 8 (by omega) (by omega) _ (by omega) (by omega) (by have s:=Lib.bitLen_shift8 x.toNat (by omega) (by omega); have e:(x / 256).toNat=x.toNat / 256:=(by omega); rw[e]; omega)
  |exact len_fin0 x (by omega) (by omega) _
theorem bitLen_spec:∀(f x:Nat),0<x→x<2^f→0<Lib.bitLenAux f x∧Lib.bitLenAux f x≤f∧2^(Lib.bitLenAux f x-1)≤x∧x<2^Lib.bitLenAux f x
 |0,x,h,hx=>by simp at hx; omega
 |f+1,x,h,hx=>by
  simp only[Lib.bitLenAux]
  rw[if_neg (by omega)]
  by_cases h2:x / 2=0
  ·have hx1:x=1:=by omega
   subst hx1
   cases f with
   |zero=>simp[Lib.bitLenAux]
   |succ f=>simp[Lib.bitLenAux]
  ·obtain⟨a,b,c,d⟩:=bitLen_spec f (x / 2) (by omega) (by rw[Nat.pow_succ] at hx; omega)
   generalize Lib.bitLenAux f (x / 2)=k at *
   obtain⟨j,rfl⟩:∃j,k=j+1:=⟨k-1,by omega⟩
   have e1:1+(j+1)=(j+1)+1:=by omega
   rw[e1,Nat.add_sub_cancel,Nat.pow_succ 2 (j+1),Nat.pow_succ 2 j] at *
   exact⟨by omega,by omega,by omega,by omega⟩
theorem lead_fin (n k:Nat) (b:k≤64) (a:0<k) (c:2^(k-1)≤n) (d:n<2^k):64-k≤63∧2^63≤n*2^(64-k)∧n*2^(64-k)<2^64:=by
 have p1:2^(k-1)*2^(64-k)=2^63:=by
  rw[←Nat.pow_add,show k-1+(64-k)=63 by omega]
 have p2:2^k*2^(64-k)=2^64:=by
  rw[←Nat.pow_add,show k+(64-k)=64 by omega]
 have q1:=Nat.mul_le_mul_right (2^(64-k)) c
 have q2:=Nat.mul_lt_mul_of_pos_right d (Nat.two_pow_pos (64-k))
 rw[p1] at q1
 rw[p2] at q2
 exact⟨by omega,q1,q2⟩
theorem lead64 (n:Nat) (w:World) (h0:0<n) (h1:n<18446744073709551616) :
  Calls Tryz.prog 263 #[.int .u64 n] w fun e w'=>(∃s:Nat,e=.returned (.int .i64 s)∧s≤63∧2^63≤n*2^s∧n*2^s<2^64)∧w=w':=by
 obtain⟨a,b,c,d⟩:=bitLen_spec 64 n h0 (by have:(2:Nat)^64=18446744073709551616:=by decide
                                          omega)
 have hf:=lead_fin n _ b a c d
 have hb:Lib.bitLen n≤64:=b
 have hs:(64-Lib.bitLen n:Int)=((64-Lib.bitLen n:Nat):Int):=by omega
 have hf':64-Lib.bitLen n≤63∧2^63≤n*2^(64-Lib.bitLen n)∧n*2^(64-Lib.bitLen n)<2^64:=hf
 clear a b c d hf
 go_enter Tryz.func263,Tryz.ntmps263
 go_wp2_with (go_at_call 220; refine (len64 _ _ (by omega) (by omega)).mono ?_; rintro e w' ⟨rfl,rfl⟩; rw[Int.toNat_natCast])
 go_ret
 exact⟨⟨_,rfl,hf'⟩,rfl⟩
end Go.Proofs.YtpgfncncgjihpaaGreat
namespace Go.Proofs.YtpgfncncgjihpaaGreat.NumA
theorem digit_low (u v q r y1 y0 n1:Nat) (hv:v=y1*4294967296+y0) (hi:q*y1+r=u) (hy0:y0<4294967296)
  (ht:(q<4294967296∧q*y0≤4294967296*r+n1)∨(4294967296≤r∧q≤4294967296)):q*v≤u*4294967296+n1:=by
 have e:q*v=(q*y1)*4294967296+q*y0:=by rw[hv,Nat.mul_add,Nat.mul_assoc]
 have e2:u*4294967296=(q*y1)*4294967296+r*4294967296:=by rw[←hi,Nat.add_mul]
 rw[e,e2]
 have h:q*y0≤r*4294967296+n1:=by
  rcases ht with ⟨_,h⟩|⟨h1,h2⟩
  ·rw[Nat.mul_comm r]; exact h
  ·have:=Nat.mul_le_mul h2 (Nat.le_of_lt hy0)
   have:=Nat.mul_le_mul_right 4294967296 h1
   omega
 omega
theorem digit_high (u v q n1:Nat) (h:u*4294967296+n1<q*v):(u*4294967296+n1) / v<q:=by
 have hv:0<v:=by
  rcases Nat.eq_zero_or_pos v with h0|h0
  ·subst h0; omega
  ·exact h0
 exact (Nat.div_lt_iff_lt_mul hv).2 h
theorem digit_more (u v q r y1 y0 n1:Nat) (hv:v=y1*4294967296+y0) (hi:q*y1+r=u) (hn:n1<4294967296) (hu:u<v)
  (ht:4294967296≤q∨4294967296*r+n1<q*y0):(u*4294967296+n1) / v<q:=by
 apply digit_high
 rcases ht with h|h
 ·have h1:=Nat.mul_le_mul_right v h
  have h2:(u+1)*4294967296≤v*4294967296:=Nat.mul_le_mul_right _ hu
  rw[Nat.mul_comm] at h1
  omega
 ·have e:q*v=(q*y1)*4294967296+q*y0:=by rw[hv,Nat.mul_add,Nat.mul_assoc]
  have e2:u*4294967296=(q*y1)*4294967296+r*4294967296:=by rw[←hi,Nat.add_mul]
  omega
theorem digit_is (u v q n1:Nat) (hl:q*v≤u*4294967296+n1) (hh:(u*4294967296+n1) / v≤q) (hv:0<v):q=(u*4294967296+n1) / v:=
 Nat.le_antisymm ((Nat.le_div_iff_mul_le hv).2 hl) hh
theorem first_high (u v y1 y0 n1:Nat) (hv:v=y1*4294967296+y0) (hy0:y0<4294967296) (hy1:2147483648≤y1) (hn:n1<4294967296) (hu:u<v) :
  (u*4294967296+n1) / v≤u / y1∧u / y1≤4294967297:=by
 have hy:0<y1:=by omega
 constructor
 ·have h:=Nat.lt_mul_div_succ u hy
  apply Nat.le_of_lt_succ
  apply digit_high
  rw[hv]
  have e:(u / y1+1)*(y1*4294967296+y0)=y1*(u / y1+1)*4294967296+(u / y1+1)*y0:=by
   rw[Nat.mul_add,←Nat.mul_assoc,Nat.mul_comm (u / y1+1) y1]
  show _<(u / y1+1)*_
  rw[e]
  have:(u+1)*4294967296≤y1*(u / y1+1)*4294967296:=Nat.mul_le_mul_right _ h
  omega
 ·apply Nat.le_of_lt_succ
  rw[Nat.div_lt_iff_lt_mul hy]
  omega
theorem rest_is (u v n1:Nat):u*4294967296+n1-(u*4294967296+n1) / v*v=(u*4294967296+n1) % v:=by
 have:=Nat.div_add_mod (u*4294967296+n1) v
 rw[Nat.mul_comm] at this
 omega
theorem digit_lt (u v n1:Nat) (hn:n1<4294967296) (hu:u<v):(u*4294967296+n1) / v<4294967296:=by
 rw[Nat.div_lt_iff_lt_mul (by omega)]
 have:=Nat.mul_le_mul_right 4294967296 hu
 rw[Nat.mul_comm 4294967296]
 omega
theorem two_digits_of (B u v n1 n0:Nat) (hv:0<v) :
  (u*(B*B)+(n1*B+n0)) / v=(u*B+n1) / v*B+((u*B+n1) % v*B+n0) / v ∧
  (u*(B*B)+(n1*B+n0)) % v=((u*B+n1) % v*B+n0) % v:=by
 have h:=Nat.div_add_mod (u*B+n1) v
 generalize (u*B+n1) / v=q at *
 generalize (u*B+n1) % v=r at *
 have e:u*(B*B)+(n1*B+n0)=v*(q*B)+(r*B+n0):=by
  have:(v*q+r)*B=(u*B+n1)*B:=by rw[h]
  rw[Nat.add_mul,Nat.add_mul,Nat.mul_assoc,Nat.mul_assoc] at this
  omega
 rw[e]
 exact⟨by rw[Nat.mul_add_div hv],by rw[Nat.mul_add_mod]⟩
theorem two_digits (u v n1 n0:Nat) (hv:0<v) :
  (u*18446744073709551616+(n1*4294967296+n0)) / v=(u*4294967296+n1) / v*4294967296+((u*4294967296+n1) % v*4294967296+n0) / v ∧
  (u*18446744073709551616+(n1*4294967296+n0)) % v=((u*4294967296+n1) % v*4294967296+n0) % v:=
 two_digits_of 4294967296 u v n1 n0 hv
theorem shifted (n y s:Nat):n*2^s / (y*2^s)=n / y∧n*2^s % (y*2^s) / 2^s=n % y:=by
 have h:0<2^s:=Nat.two_pow_pos s
 exact⟨Nat.mul_div_mul_right _ _ h,by rw[Nat.mul_mod_mul_right,Nat.mul_div_cancel _ h]⟩
def Dig (u v y1 n1 Q R:Nat):Prop:=Q*y1+R=u∧(u*4294967296+n1) / v≤Q∧Q≤4294967297∧R<4294967296
def DigAt (u v n1 Q:Nat):Prop:=Q=(u*4294967296+n1) / v
structure Norm (v y1 y0:Nat):Prop where
 eq:v=y1*4294967296+y0
 low:y0<4294967296
 high:2147483648≤y1
 top:y1<4294967296
theorem Dig.first {u v y1 y0 n1:Nat} (h:Norm v y1 y0) (hn:n1<4294967296) (hu:u<v):Dig u v y1 n1 (u / y1) (u-u / y1*y1):=by
 obtain⟨a,b⟩:=first_high u v y1 y0 n1 h.eq h.low h.high hn hu
 have e:=Nat.div_add_mod' u y1
 have m:=Nat.mod_lt u (show 0<y1 by have:=h.high; omega)
 have t:=h.top
 exact⟨by omega,a,b,by omega⟩
theorem Dig.done {u v y1 y0 n1 Q R:Nat} (h:Norm v y1 y0) (d:Dig u v y1 n1 Q R) (h1:Q<4294967296) (h2:Q*y0≤4294967296*R+n1):DigAt u v n1 Q:=by
 have hh:=h.high
 exact digit_is u v Q n1 (digit_low u v Q R y1 y0 n1 h.eq d.1 h.low (.inl ⟨h1,h2⟩)) d.2.1 (by rw[h.eq]; omega)
theorem Dig.less {u v y1 y0 n1 Q R:Nat} (h:Norm v y1 y0) (d:Dig u v y1 n1 Q R) (hn:n1<4294967296) (hu:u<v) (ht:4294967296≤Q∨4294967296*R+n1<Q*y0) :
  0<Q∧(R+y1<4294967296→Dig u v y1 n1 (Q-1) (R+y1))∧(4294967296≤R+y1→DigAt u v n1 (Q-1)):=by
 have hm:=digit_more u v Q R y1 y0 n1 h.eq d.1 hn hu ht
 obtain⟨d1,d2,d3,d4⟩:=d
 have hh:=h.high
 have hQ:0<Q:=Nat.lt_of_le_of_lt (Nat.zero_le _) hm
 generalize hg:(u*4294967296+n1) / v=g at *
 obtain⟨q,rfl⟩:∃q,Q=q+1:=⟨Q-1,by omega⟩
 rw[Nat.add_sub_cancel]
 rw[Nat.add_mul,Nat.one_mul] at d1
 refine⟨by omega,fun hr=>⟨by omega,by rw[hg]; omega,by omega,hr⟩,fun hr=>?_⟩
 exact digit_is u v q n1 (digit_low u v q (R+y1) y1 y0 n1 h.eq (by omega) h.low (.inr ⟨hr,by omega⟩)) (by rw[hg]; omega) (by rw[h.eq]; omega)
theorem DigAt.rest {u v n1 Q:Nat} (d:DigAt u v n1 Q) (hu:u<v) (hn:n1<4294967296) (hv:v<18446744073709551616) :
  Q<4294967296∧((((u:Int)*4294967296 % 18446744073709551616+n1) % 18446744073709551616-(Q:Int)*v % 18446744073709551616) % 18446744073709551616=(((u*4294967296+n1) % v:Nat):Int))∧(u*4294967296+n1) % v<v:=by
 have hl:=digit_lt u v n1 hn hu
 have hr:=rest_is u v n1
 have hm:=Nat.mod_lt (u*4294967296+n1) (show 0<v by omega)
 have hd:=Nat.div_mul_le_self (u*4294967296+n1) v
 unfold DigAt at d
 rw[←d] at hr hl hd
 refine⟨hl,?_,hm⟩
 generalize (u*4294967296+n1) % v=r at *
 have e:(Q:Int)*v=((Q*v:Nat):Int):=(Int.natCast_mul Q v).symm
 rw[e]
 generalize Q*v=k at *
 omega
end Go.Proofs.YtpgfncncgjihpaaGreat.NumA
namespace Go.Proofs.YtpgfncncgjihpaaGreat
open Go.RowKit NumA
theorem div64_small (lo y:Nat) (w:World) (h0:0<y) (hy:y<18446744073709551616) (hlo:lo<18446744073709551616) :
  Calls Tryz.prog 238 #[.int .u64 0,.int .u64 lo,.int .u64 y] w fun e w'=>e=.returned (.tuple #[.int .u64 ((lo / y:Nat):Int),.int .u64 ((lo % y:Nat):Int)])∧∃n,w'=w.drewN n:=by
 have h1:((y:Int)==0)=false:=by simp; omega
 have h2:¬(y:Int)≤0:=by omega
 have h3:¬(y:Int)=0:=by omega
 have hl:=Nat.div_le_self lo y
 have e:∀k:Int,k=((lo / y:Nat):Int)→IntKind.u64.wrap k=((lo / y:Nat):Int):=by
  intro k hk; rw[hk,IntKind.wrap_u64]; generalize lo / y=g at *; omega
 have e':=e (lo / y) (Int.natCast_ediv lo y).symm
 clear e
 go_enter Tryz.func238,Tryz.ntmps238
 go_wp2
 go_quiet (fail)
 go_wp2
 go_ret2
 exact⟨rfl,_,rfl⟩
theorem shl_u (y s:Nat) (h2:y*2^s<2^64):IntKind.u64.wrap ((y:Int)*2^s)=((y*2^s:Nat):Int):=by
 have e:(y:Int)*2^s=((y*2^s:Nat):Int):=by rw[Int.natCast_mul,Int.natCast_pow]; rfl
 have h2':y*2^s<18446744073709551616:=h2
 rw[e,IntKind.wrap_u64]
 generalize y*2^s=k at *
 omega
theorem shl_mod (y s:Nat):IntKind.u64.wrap ((y:Int)*2^s)=((y*2^s % 18446744073709551616:Nat):Int):=by
 have e:(y:Int)*2^s=((y*2^s:Nat):Int):=by rw[Int.natCast_mul,Int.natCast_pow]; rfl
 rw[e,IntKind.wrap_u64]
 generalize y*2^s=k at *
 omega
structure Setup (hi lo y s v y1 y0 u n1 n0:Nat):Prop where
 norm:Norm v y1 y0
 ltv:v<18446744073709551616
 ltu:u<v
 lt1:n1<4294967296
 lt0:n0<4294967296
 quo:(u*18446744073709551616+(n1*4294967296+n0)) / v=(hi*18446744073709551616+lo) / y
 rem:(u*18446744073709551616+(n1*4294967296+n0)) % v / 2^s=(hi*18446744073709551616+lo) % y
theorem set_up (hi lo y s:Nat) (hh:hi<y) (hlo:lo<18446744073709551616) (hs:s≤63) (h1:2^63≤y*2^s) (h2:y*2^s<2^64) :
  ∃v y1 y0 u n1 n0 n10:Nat,IntKind.u64.wrap ((y:Int)*2^s)=(v:Int)∧bits .and .u64 (v:Int) 4294967295=(y0:Int)∧(v:Int) / 4294967296=(y1:Int) ∧
   bits .or .u64 (IntKind.u64.wrap ((hi:Int)*2^s)) ((lo:Int) / 2^(64-s))=(u:Int)∧IntKind.u64.wrap ((lo:Int)*2^s)=(n10:Int) ∧
   bits .and .u64 (n10:Int) 4294967295=(n0:Int)∧(n10:Int) / 4294967296=(n1:Int)∧Setup hi lo y s v y1 y0 u n1 n0:=by
 have hP:0<2^s:=Nat.two_pow_pos s
 have hPQ:2^s*2^(64-s)=18446744073709551616:=by rw[←Nat.pow_add,show s+(64-s)=64 by omega]
 have hQ:0<2^(64-s):=Nat.two_pow_pos _
 have hhs:(hi+1)*2^s≤y*2^s:=Nat.mul_le_mul_right _ hh
 rw[Nat.add_mul,Nat.one_mul] at hhs
 have h2':y*2^s<18446744073709551616:=h2
 have h1':9223372036854775808≤y*2^s:=h1
 have hl1:lo / 2^(64-s)<2^s:=by
  rw[Nat.div_lt_iff_lt_mul hQ,hPQ]; exact hlo
 have hor:hi*2^s ||| lo / 2^(64-s)=hi*2^s+lo / 2^(64-s):=nat_join s _ _ (by simp) hl1
 have ehi:=shl_u hi s (by show _<18446744073709551616; omega)
 have elo:((lo:Int) / 2^(64-s))=((lo / 2^(64-s):Nat):Int):=by
  rw[Int.natCast_ediv,Int.natCast_pow]; rfl
 have hdm:=Nat.div_add_mod lo (2^(64-s))
 have hsplit:lo*2^s=lo / 2^(64-s)*18446744073709551616+lo*2^s % 18446744073709551616:=by
  have:lo*2^s / 18446744073709551616=lo / 2^(64-s):=by
   rw[←hPQ,Nat.mul_comm lo,Nat.mul_div_mul_left _ _ hP]
  have:=Nat.div_add_mod (lo*2^s) 18446744073709551616
  omega
 have hsh:=shifted (hi*18446744073709551616+lo) y s
 have hall:(hi*18446744073709551616+lo)*2^s=(hi*2^s+lo / 2^(64-s))*18446744073709551616+(lo*2^s % 18446744073709551616 / 4294967296*4294967296+lo*2^s % 18446744073709551616 % 4294967296):=by
  rw[Nat.add_mul,Nat.mul_right_comm]
  omega
 rw[hall] at hsh
 refine⟨y*2^s,y*2^s / 4294967296,y*2^s % 4294967296,hi*2^s+lo / 2^(64-s),lo*2^s % 18446744073709551616 / 4294967296,lo*2^s % 18446744073709551616 % 4294967296,lo*2^s % 18446744073709551616,
  shl_u y s h2,MulN.maskN _ h2',by omega,?_,shl_mod lo s,MulN.maskN _ (by omega),by omega,⟨⟨by omega,by omega,by omega,by omega⟩,h2',by omega,by omega,by omega,hsh.1,hsh.2⟩⟩
 rw[ehi,elo,bits_or_u64_nat _ _ (by omega) (by omega),hor]
theorem u64_mul (a b:Nat) (h:a*b<18446744073709551616):IntKind.u64.wrap ((a:Int)*b)=((a*b:Nat):Int):=by
 rw[IntKind.wrap_u64,←Int.natCast_mul]; omega
theorem dig_setup {u v y1 y0 n1:Nat} (h:Norm v y1 y0) (hn:n1<4294967296) (hu:u<v) (hv:v<18446744073709551616) :
  ∃q p r:Nat,(u:Int) / y1=(q:Int)∧IntKind.u64.wrap ((q:Int)*y1)=(p:Int)∧(u:Int)-p=(r:Int)∧p≤u∧q≤4294967297∧r<4294967296∧0<y1∧y1<4294967296∧u<18446744073709551616∧Dig u v y1 n1 q r:=by
 have d:=Dig.first h hn hu
 have e:=Nat.div_mul_le_self u y1
 have t:=h.high
 have t':=h.top
 refine⟨u / y1,u / y1*y1,u-u / y1*y1,(Int.natCast_ediv u y1).symm,u64_mul _ _ (by omega),by omega,e,d.2.2.1,d.2.2.2,by omega,t',by omega,d⟩
theorem dig_test {u v y1 y0 n1 Q R:Nat} (h:Norm v y1 y0) (d:Dig u v y1 n1 Q R) (hn:n1<4294967296) (hu:u<v) (ht:4294967296≤Q∨4294967296*R+n1<Q*y0) :
  0<Q∧R<4294967296∧(R+y1<4294967296→Dig u v y1 n1 (Q-1) (R+y1))∧(4294967296≤R+y1→DigAt u v n1 (Q-1)):=
 let ⟨a,b,c⟩:=d.less h hn hu ht; ⟨a,d.2.2.2,b,c⟩
theorem num_pred {Q:Nat} (h:(1:Int)≤(Q:Int)):Value.int .u64 ((Q:Int)-1)=.int .u64 ((Q-1:Nat):Int):=by
 have:(Q:Int)-1=((Q-1:Nat):Int):=by omega
 rw[this]
theorem num_add (a b:Nat):Value.int .u64 ((a:Int)+(b:Int))=.int .u64 ((a+b:Nat):Int):=by rw[Int.natCast_add]
theorem ret_u64s {a b c d:Int} (h1:a=c) (h2:b=d):Ending.returned (.tuple #[.int .u64 a,.int .u64 b])=.returned (.tuple #[.int .u64 c,.int .u64 d]):=by rw[h1,h2]
theorem dig_bools {Q R y0 n1:Nat} (h:4294967296≤Q∨4294967296*R+n1<Q*y0) (hy0:y0<4294967296) (hn:n1<4294967296) (hR:(R:Int)<4294967296) :
  ∃m:Nat,((Q:Int)<4294967296→IntKind.u64.wrap ((Q:Int)*y0)=(m:Int))∧(decide ((4294967296:Int)≤(Q:Int))=true ∨
   (decide ((4294967296:Int)≤(Q:Int))=false∧IntKind.u64.wrap ((Q:Int)*y0)=(m:Int)∧decide ((4294967296:Int)*R+n1<(m:Int))=true)):=by
 refine⟨Q*y0,?_,?_⟩
 ·intro hq
  exact u64_mul Q y0 (by have:=Nat.mul_le_mul (show Q≤4294967295 by omega) (show y0≤4294967295 by omega); omega)
 ·by_cases hq:4294967296≤Q
  ·left; simp only[decide_eq_true_eq]; omega
  ·right
   have hl:=Nat.mul_le_mul (show Q≤4294967295 by omega) (show y0≤4294967295 by omega)
   refine⟨by simp only[decide_eq_false_iff_not]; omega,u64_mul Q y0 (by omega),?_⟩
   rcases h with h|h
   ·omega
   ·simp only[decide_eq_true_eq]; omega
theorem dig_bools_no {Q R y0 n1:Nat} (h:¬(4294967296≤Q∨4294967296*R+n1<Q*y0)) (hy0:y0<4294967296) (hn:n1<4294967296) (hR:(R:Int)<4294967296) :
  decide ((4294967296:Int)≤(Q:Int))=false∧∃m:Nat,IntKind.u64.wrap ((Q:Int)*y0)=(m:Int)∧decide ((4294967296:Int)*R+n1<(m:Int))=false:=by
 have hl:=Nat.mul_le_mul (show Q≤4294967295 by omega) (show y0≤4294967295 by omega)
 refine⟨by simp only[decide_eq_false_iff_not]; omega,Q*y0,u64_mul Q y0 (by omega),?_⟩
 simp only[decide_eq_false_iff_not]; omega
theorem rest_w {u v n1 Q:Nat} (d:DigAt u v n1 Q) (hu:u<v) (hn:n1<4294967296) (hv:v<18446744073709551616) :
  ∃r:Nat,IntKind.u64.wrap (IntKind.u64.wrap (IntKind.u64.wrap ((u:Int)*4294967296)+n1)-IntKind.u64.wrap ((Q:Int)*v))=(r:Int)∧Hid (r=(u*4294967296+n1) % v)∧r<v∧Q<4294967296:=by
 obtain⟨a,b,c⟩:=d.rest hu hn hv
 exact⟨_,by simp only[IntKind.wrap_u64]; exact b,rfl,c,a⟩
theorem div_fin {hi lo y s v y1 y0 u n1 n0 q1 r1 q0 r0:Nat} (h:Setup hi lo y s v y1 y0 u n1 n0) (d1:DigAt u v n1 q1) (e1:r1=(u*4294967296+n1) % v)
  (d0:DigAt r1 v n0 q0) (e0:r0=(r1*4294967296+n0) % v):q1*4294967296+q0=(hi*18446744073709551616+lo) / y∧r0 / 2^s=(hi*18446744073709551616+lo) % y:=by
 obtain⟨a,b⟩:=two_digits u v n1 n0 (by have:=h.ltu; omega)
 unfold DigAt at d1 d0
 rw[←h.quo,←h.rem,a,b,←e1,←d1,←e0,←d0]
 exact⟨rfl,rfl⟩
set_option maxHeartbeats 2000000 in
set_option maxRecDepth 100000 in
theorem div64_big (hi lo y:Nat) (w:World) (h0:0<hi) (hh:hi<y) (hy:y<18446744073709551616) (hlo:lo<18446744073709551616) :
  Calls Tryz.prog 238 #[.int .u64 hi,.int .u64 lo,.int .u64 y] w fun e w'=>e=.returned (.tuple #[.int .u64 (((hi*18446744073709551616+lo) / y:Nat):Int),.int .u64 (((hi*18446744073709551616+lo) % y:Nat):Int)])∧w=w':=by
 have h1:((y:Int)==0)=false:=by simp; omega
 have h2:¬(y:Int)≤hi:=by omega
 have h3:((hi:Int)==0)=false:=by simp; omega
 go_enter Tryz.func238,Tryz.ntmps238
 go_upto_block 0 with (go_at_call 263; refine (lead64 y _ (by omega) hy).mono ?_; rintro e w' ⟨⟨s,rfl,hs,hs1,hs2⟩,rfl⟩; obtain⟨v,y1,y0,u,n1,n0,n10,e1,e2,e3,e4,e5,e6,e7,hset⟩:=set_up hi lo y s hh hlo hs hs1 hs2; obtain⟨q,p,r,e8,e9,e10,hp,hq,hr,hy1,hy2,hu,hd⟩:=dig_setup hset.norm hset.lt1 hset.ltu hset.ltv)
 have hn1:=hset.lt1
 have hn0:=hset.lt0
 have hy0:=hset.norm.low
 have hv:=hset.ltv
 have hs':(s:Int)≤63:=by omega
 clear e1 e2 e3 e4 e5 e6 e7 e8 e9 e10 hs1 hs2 h1 h2 h3
 go_cut [15,16] (fun s15 s16 wx=>∃Q:Nat,s15=.int .u64 Q∧DigAt u v n1 Q∧w=wx)
 case first=>
  go_wp2_with fail
  go_loop [15,16] (fun s15 s16=>∃Q R:Nat,s15=.int .u64 Q∧s16=.int .u64 R∧Dig u v y1 n1 Q R) (fun s15 _=>(intOf s15).toNat)
  case atStart=>exact⟨q,r,rfl,rfl,hd⟩
  case round=>
   obtain⟨Q,R,rfl,rfl,hdig⟩:=hrel
   have hqi:(Q:Int)≤4294967297:=by have:=hdig.2.2.1; omega
   have hR:(R:Int)<4294967296:=by have:=hdig.2.2.2; omega
   by_cases hb:4294967296≤Q∨4294967296*R+n1<Q*y0
   ·obtain⟨g0,-,g1,g2⟩:=dig_test hset.norm hdig hn1 hset.ltu hb
    have hg0:(1:Int)≤(Q:Int):=by omega
    have ⟨m,hm,ht⟩:=dig_bools hb hy0 hn1 hR
    by_cases hc:R+y1<4294967296
    ·have g:=g1 hc
     have hcd:decide ((4294967296:Int)≤(R:Int)+(y1:Int))=false:=by simp only[decide_eq_false_iff_not]; omega
     clear g1 g2 hdig hb hc
     rcases ht with ht|⟨ht,ht'⟩
     all_goals
      go_wp2_with fail
      go_round
      case rel=>exact⟨Q-1,R+y1,num_pred hg0,num_add R y1,g⟩
      case measure=>simp[intOf]; omega
    ·have g:=g2 (by omega)
     have hcd:decide ((4294967296:Int)≤(R:Int)+(y1:Int))=true:=by simp only[decide_eq_true_eq]; omega
     clear g1 g2 hdig hb hc
     rcases ht with ht|⟨ht,ht'⟩
     all_goals
      go_wp2_with fail
      go_meet
      exact⟨Q-1,num_pred hg0,g,rfl⟩
   ·obtain⟨ht,m,hm,ht'⟩:=dig_bools_no hb hy0 hn1 hR
    have g:DigAt u v n1 Q:=hdig.done hset.norm (by omega) (by omega)
    clear hdig hb
    go_wp2_with fail
    go_meet
    exact⟨Q,rfl,g,rfl⟩
 case rest=>
  obtain⟨Q1,rfl,d1,rfl⟩:=hcut
  obtain⟨r1,e1,hr1,hv1,hQ1⟩:=rest_w d1 hset.ltu hn1 hv
  obtain⟨q',p',r',e8,e9,e10,hp',hq',hr',-,-,hu',hd'⟩:=dig_setup hset.norm hn0 hv1 hv
  go_upto_block 2 with fail
  clear e1 e8 e9 e10
  go_cut [16,18] (fun s16 s18 wx=>∃Q:Nat,s18=.int .u64 Q∧DigAt r1 v n0 Q∧w=wx)
  case first=>
   go_wp2_with fail
   go_loop [16,18] (fun s16 s18=>∃Q R:Nat,s18=.int .u64 Q∧s16=.int .u64 R∧Dig r1 v y1 n0 Q R) (fun _ s18=>(intOf s18).toNat)
   case atStart=>exact⟨q',r',rfl,rfl,hd'⟩
   case round=>
    obtain⟨Q,R,rfl,rfl,hdig⟩:=hrel
    have hqi:(Q:Int)≤4294967297:=by have:=hdig.2.2.1; omega
    have hR:(R:Int)<4294967296:=by have:=hdig.2.2.2; omega
    by_cases hb:4294967296≤Q∨4294967296*R+n0<Q*y0
    ·obtain⟨g0,-,g1,g2⟩:=dig_test hset.norm hdig hn0 hv1 hb
     have hg0:(1:Int)≤(Q:Int):=by omega
     have ⟨m,hm,ht⟩:=dig_bools hb hy0 hn0 hR
     by_cases hc:R+y1<4294967296
     ·have g:=g1 hc
      have hcd:decide ((4294967296:Int)≤(R:Int)+(y1:Int))=false:=by simp only[decide_eq_false_iff_not]; omega
      clear g1 g2 hdig hb hc
      rcases ht with ht|⟨ht,ht'⟩
      all_goals
       go_wp2_with fail
       go_round
       case rel=>exact⟨Q-1,R+y1,num_pred hg0,num_add R y1,g⟩
       case measure=>simp[intOf]; omega
     ·have g:=g2 (by omega)
      have hcd:decide ((4294967296:Int)≤(R:Int)+(y1:Int))=true:=by simp only[decide_eq_true_eq]; omega
      clear g1 g2 hdig hb hc
      rcases ht with ht|⟨ht,ht'⟩
      all_goals
       go_wp2_with fail
       go_meet
       exact⟨Q-1,num_pred hg0,g,rfl⟩
    ·obtain⟨ht,m,hm,ht'⟩:=dig_bools_no hb hy0 hn0 hR
     have g:DigAt r1 v n0 Q:=hdig.done hset.norm (by omega) (by omega)
     clear hdig hb
     go_wp2_with fail
     go_meet
     exact⟨Q,rfl,g,rfl⟩
  case rest=>
   obtain⟨Q0,rfl,d0,rfl⟩:=hcut
   obtain⟨r0,e1,hr0,hv0,hQ0⟩:=rest_w d0 hv1 hn0 hv
   have hQ1':(Q1:Int)<4294967296:=by omega
   have hQ0':(Q0:Int)<4294967296:=by omega
   go_wp2_with fail
   go_ret2
   obtain⟨f1,f2⟩:=div_fin hset d1 hr1.out d0 hr0.out
   refine⟨?_,rfl⟩
   rw[←f1,←f2]
   exact ret_u64s (by omega) (by rw[Int.natCast_ediv,Int.natCast_pow]; rfl)
theorem div64 (hi lo y:Nat) (w:World) (hh:hi<y) (hy:y<18446744073709551616) (hlo:lo<18446744073709551616) :
  Calls Tryz.prog 238 #[.int .u64 hi,.int .u64 lo,.int .u64 y] w fun e w'=>e=.returned (.tuple #[.int .u64 (((hi*18446744073709551616+lo) / y:Nat):Int),.int .u64 (((hi*18446744073709551616+lo) % y:Nat):Int)])∧∃n,w'=w.drewN n:=by
 rcases Nat.eq_zero_or_pos hi with h|h
 ·subst h
  rw[Nat.zero_mul,Nat.zero_add]
  exact div64_small lo y w hh hy hlo
 ·exact (div64_big hi lo y w h hh hy hlo).mono fun e w' ⟨h1,h2⟩=>⟨h1,0,by rw[←h2]; rfl⟩
def hiW (n:Int):Int:=n / 18446744073709551616
def loW (n:Int):Int:=n % 18446744073709551616
theorem hiW_word {n:Int} (h0:0≤n) (h1:n<340282366920938463463374607431768211456):Word (hiW n):=by unfold Word hiW; omega
theorem loW_word (n:Int):Word (loW n):=by unfold Word loW; omega
theorem hiW_loW (n:Int):hiW n*18446744073709551616+loW n=n:=by unfold hiW loW; omega
theorem mul_lt_128 {x y:Int} (hx:Word x) (hy:Word y):0≤x*y∧x*y<340282366920938463463374607431768211456:=by
 obtain⟨a,b⟩:=hx; obtain⟨c,d⟩:=hy
 refine⟨Int.mul_nonneg a c,?_⟩
 have:x*y≤18446744073709551615*18446744073709551615:=Int.mul_le_mul (by omega) (by omega) c (by omega)
 omega
abbrev wideV (h l:Int):Value:=.agg #[.int .u64 h,.int .u64 l]
theorem product_c (x y:Int) (w:World) (hx:Word x) (hy:Word y) :
  Calls Tryz.prog 71 #[.int .u64 x,.int .u64 y] w fun e w'=>e=.returned (wideV (hiW (x*y)) (loW (x*y)))∧Below w.heap.size w w':=by
 go_enter Tryz.func71,Tryz.ntmps71
 go_wp2_with (go_at_call 125; refine (mul64 _ _ hx hy _).mono ?_; rintro e w' ⟨rfl,rfl⟩)
 exact bodyPost_ret (v:=wideV (hiW (x*y)) (loW (x*y))) (by simp[results,Tryz.results71,go_sem,hiW,loW]) rfl ⟨rfl,(Below.refl _ _).alloc (Nat.le_refl _) _⟩
def cmpI (a b:Int):Int:=if a<b then -1 else if b<a then 1 else 0
theorem isNaN_c (x:Int) (w:World):Calls Tryz.prog 197 #[.int .u64 x] w fun e w'=>e=.returned (.bool false)∧w=w':=by
 go_enter Tryz.func197,Tryz.ntmps197
 go_wp2
 go_ret
 exact⟨by simp,rfl⟩
theorem compare_c (x y:Int) (w:World):Calls Tryz.prog 165 #[.int .u64 x,.int .u64 y] w fun e w'=>e=.returned (.int .i64 (cmpI x y))∧w=w':=by
 unfold cmpI
 go_enter Tryz.func165,Tryz.ntmps165
 go_wp2_with (go_at_call 197; refine (isNaN_c _ _).mono ?_; rintro e w' ⟨rfl,rfl⟩)
 all_goals (go_ret; exact⟨by simp[*],rfl⟩)
def orI (x y:Int):Int:=if x=0 then y else x
theorem or_c (x y:Int) (b:Nat) (w:World) (h0:w.cell? ⟨b,0,none⟩=some (.int .i64 x)) (h1:w.cell? ⟨b,1,none⟩=some (.int .i64 y)) :
  Calls Tryz.prog 164 #[.slice (some ⟨b,0,none⟩) 2 2] w fun e w'=>e=.returned (.int .i64 (orI x y))∧w=w':=by
 unfold orI
 go_enter Tryz.func164,Tryz.ntmps164
 go_wp2
 go_loop [5,8] (fun _ i=>i=.int .i64 0∨(i=.int .i64 1∧x=0)∨(i=.int .i64 2∧x=0∧y=0)) (fun _ i=>(2-intOf i).toNat)
 case atStart=>exact .inl rfl
 case round=>
  rcases hrel with rfl|⟨rfl,rfl⟩|⟨rfl,rfl,rfl⟩
  ·by_cases hx:x=0
   ·subst hx
    go_wp2
    go_round
    case rel=>simp
    case measure=>simp[intOf]
   ·have hxb:(x != 0)=true:=by simpa using hx
    go_wp2
    go_ret
    exact⟨by simp[hx],rfl⟩
  ·by_cases hy:y=0
   ·subst hy
    go_wp2
    go_round
    case rel=>simp
    case measure=>simp[intOf]
   ·have hxb:(y != 0)=true:=by simpa using hy
    go_wp2
    go_ret
    exact⟨by simp,rfl⟩
  ·go_wp2
   go_ret
   exact⟨by simp,rfl⟩
set_option maxHeartbeats 1000000 in
theorem wcompare_c (a b c d:Int) (w:World) :
  Calls Tryz.prog 123 #[wideV a b,wideV c d] w fun e w'=>e=.returned (.int .i64 (orI (cmpI a c) (cmpI b d)))∧Below w.heap.size w w':=by
 go_enter Tryz.func123,Tryz.ntmps123
 go_wp2_with fail
 go_region_held3 (fun w'=>w'.cell? ⟨w.heap.size,0,none⟩=some (.int .u64 a)∧w'.cell? ⟨w.heap.size,1,none⟩=some (.int .u64 b)∧w'.cell? ⟨w.heap.size+1,0,none⟩=some (.int .u64 c)∧w'.cell? ⟨w.heap.size+1,1,none⟩=some (.int .u64 d)) (simp[go_sem,World.cell?_alloc_past])
  (first
   |(go_at_call_of 165 (Value.int .u64 a); refine (compare_c a c _).mono ?_; rintro e w' ⟨rfl,rfl⟩)
   |(go_at_call_of 165 (Value.int .u64 b); refine (compare_c b d _).mono ?_; rintro e w' ⟨rfl,rfl⟩)
   |(go_at_call 164; refine (or_c (cmpI a c) (cmpI b d) (w.heap.size+2) _ (by simp[go_sem]) (by simp[go_sem])).mono ?_; rintro e w' ⟨rfl,rfl⟩))
 go_wp2
 go_ret
 refine⟨rfl,?_⟩
 exact ((((Below.refl _ _).alloc (Nat.le_refl _) _).alloc (by simp) _).alloc (by simp; omega) _).drew
def quoI (h l b:Int):Int:=(h*18446744073709551616+l) / b
def remI (h l b:Int):Int:=(h*18446744073709551616+l) % b
theorem div64_i (h l b:Int) (w:World) (hh:0≤h) (hl:Word l) (hb:b<18446744073709551616) (hlt:h<b) :
  Calls Tryz.prog 238 #[.int .u64 h,.int .u64 l,.int .u64 b] w fun e w'=>e=.returned (.tuple #[.int .u64 (quoI h l b),.int .u64 (remI h l b)])∧∃n,w'=w.drewN n:=by
 obtain⟨l1,l2⟩:=hl
 obtain⟨h,rfl⟩:=Int.eq_ofNat_of_zero_le hh
 obtain⟨l,rfl⟩:=Int.eq_ofNat_of_zero_le l1
 obtain⟨b,rfl⟩:=Int.eq_ofNat_of_zero_le (show 0≤b by omega)
 have e1:quoI (h:Int) l b=(((h*18446744073709551616+l) / b:Nat):Int):=by unfold quoI; rw[Int.natCast_ediv,Int.natCast_add,Int.natCast_mul]; rfl
 have e2:remI (h:Int) l b=(((h*18446744073709551616+l) % b:Nat):Int):=by unfold remI; rw[Int.natCast_emod,Int.natCast_add,Int.natCast_mul]; rfl
 rw[e1,e2]
 exact div64 h l b w (by omega) (by omega) (by omega)
theorem over_yes (h l b:Int) (w:World) (hh:0≤h) (hl:Word l) (hb:b<18446744073709551616) (hlt:h<b) :
  Calls Tryz.prog 199 #[wideV h l,.int .u64 b] w fun e w'=>e=.returned (.tuple #[.int .u64 (quoI h l b),.int .u64 (remI h l b),.bool true])∧Below w.heap.size w w':=by
 have hd:decide ((b:Int)≤(h:Int))=false:=by simp only[decide_eq_false_iff_not]; omega
 go_enter Tryz.func199,Tryz.ntmps199
 go_wp2_with (go_at_call 238; refine (div64_i h l b _ hh hl hb hlt).mono ?_; rintro e w' ⟨rfl,n,rfl⟩)
 go_ret3
 exact⟨rfl,((Below.refl _ _).alloc (Nat.le_refl _) _).trans ⟨rfl,rfl,rfl,Nat.le_refl _,fun _ _=>rfl⟩⟩
theorem over_no (h l b:Int) (w:World) (hlt:b≤h) :
  Calls Tryz.prog 199 #[wideV h l,.int .u64 b] w fun e w'=>e=.returned (.tuple #[.int .u64 0,.int .u64 0,.bool false])∧Below w.heap.size w w':=by
 have hd:decide ((b:Int)≤(h:Int))=true:=by simp only[decide_eq_true_eq]; omega
 go_enter Tryz.func199,Tryz.ntmps199
 go_wp2_with fail
 go_ret3
 exact⟨rfl,(Below.refl _ _).alloc (Nat.le_refl _) _⟩
end Go.Proofs.YtpgfncncgjihpaaGreat
