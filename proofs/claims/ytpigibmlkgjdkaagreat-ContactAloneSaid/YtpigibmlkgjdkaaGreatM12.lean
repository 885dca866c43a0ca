/- Parts of the proof, in build order. -/
import Derived.Test.YtpigibmlkgjdkaaGreatM11
namespace Go.Proofs.YtpigibmlkgjdkaaGreat
open Go.RowKit
noncomputable def rTk2S:Fsp:=fun _ args k=>match args with
 | [.agg [.int .i64 cx,.int .i64 cy,.int .i64 sd,.int .i64 w,.int .i64 h,.ro (.int .i64) pb,.ro (.int .i64) po],.agg [.int .i64 fl,.int .i64 ke,.int .i64 sw,.int .i64 be,.int .i64 we],.agg [.int .i64 ax,.int .i64 ay,.int .i64 vx,.int .i64 vy,.int .i64 sp],.int .i64 u]=>bif rgtB cx cy sd w h pb po fl ke sw be we ax ay vx vy sp u then tkStep (slwV cx cy sd w h pb po fl ke sw be we ax ay) (bdvV cx cy sd w h pb po fl ke sw be we ax ay) ax ay vx vy sp u (fun a b c d e=>k (.ret (.tup [.agg [.int .i64 a,.int .i64 b,.int .i64 c,.int .i64 d,.int .i64 e],iN 0]))) (k (.ret (.tup [.agg [iN 0,iN 0,iN 0,iN 0,iN 0],iN 4]))) else none
 | _=>none
theorem rTk2S_ok:FspOk Tryz.prog 35 rTk2S where
 enter:=rTickS_ok.enter
 nat:=by
  intro α args k
  unfold rTk2S
  split
  ·rename_i cx cy sd w h pb po fl ke sw be we ax ay vx vy sp u
   cases rgtB cx cy sd w h pb po fl ke sw be we ax ay vx vy sp u
   ·rfl
   ·simp only [cond_true,tkS_k]; rfl
  ·rfl
 calls:=fun args out hout=>rTickS_ok.calls args out (by
  unfold rTk2S at hout
  split at hout
  ·rename_i cx cy sd w h pb po fl ke sw be we ax ay vx vy sp u
   cases hr:rgtB cx cy sd w h pb po fl ke sw be we ax ay vx vy sp u
   ·rw [hr] at hout; cases hout
   ·rw [hr,cond_true,tkS_k] at hout
    unfold rTickS
    simp only [hr]
    exact hout
  ·cases hout)
noncomputable def fnAl:FuncId→Option Fsp:=fun g=>
 if g=35 then some rTk2S else
 if g=34 then some (nilS [some (.recd (.cons (.int .i64) (.cons (.int .i64) (.cons (.int .i64) .nil))))] (onlyS rStrS)) else
 fnC6 g
theorem fnAl_ok:FsOk fnAl:=
 fs_cons rTk2S_ok <|
 fs_cons (nil_ok _ (only_ok rStrS_ok)) <|
 fnC6_ok
abbrev S10:=Int × Int × Int × Int × Int × Int × Int × Int × Bool × Unit
abbrev S10.bd (x:S10):BdI:=(x.2.1,x.2.2.1,((x.2.2.2.1,x.2.2.2.2.1,()),(x.2.2.2.2.2.1,x.2.2.2.2.2.2.1,()),x.2.2.2.2.2.2.2.1,()),x.2.2.2.2.2.2.2.2.1,())
abbrev st10 (t:Int) (b:BdI):S10:=(t,b.1,b.2.1,b.x,b.y,b.u,b.v,b.s,b.o,())
section
variable {α:Type} (cx cy sd w h:Int) (pb po:List Int) (fl ke sw be we:Int)
noncomputable def alF (b:List BrI) (m:Int) (R:Option α) (x:S10):Option (LRes S10 α):=
 bif decide (x.1 < m) then
  bif !x.bd.o then
   bif !(x.bd.u==0&&x.bd.v==0) then
    bif er2 (brsB b&&tckB x.1)==0 then
     bif rgtB cx cy sd w h pb po fl ke sw be we x.bd.x x.bd.y x.bd.u x.bd.v x.bd.s (selI (brsB b&&tckB x.1) (strN b x.1)) then
      tkStep (slwV cx cy sd w h pb po fl ke sw be we x.bd.x x.bd.y) (bdvV cx cy sd w h pb po fl ke sw be we x.bd.x x.bd.y) x.bd.x x.bd.y x.bd.u x.bd.v x.bd.s (selI (brsB b&&tckB x.1) (strN b x.1))
       (fun a c d e g=>bif !rbodB x.bd.1 x.bd.2.1 a c d e g then finL R else
        bif gonB a c then some (.cont (IntKind.i64.wrap (x.1 + 1),x.bd.1,x.bd.2.1,a,c,0,0,0,true,()))
        else some (.cont (IntKind.i64.wrap (x.1 + 1),x.bd.1,x.bd.2.1,a,c,d,e,g,x.bd.o,()))) (finL R)
     else none
    else none
   else some (.brk 0 (st10 x.1 x.bd))
  else some (.brk 0 (st10 x.1 x.bd))
 else some (.brk 0 (st10 x.1 x.bd))
noncomputable def alT (N:Nat) (b:List BrI) (l:List BdI) (i m:Int) (e:BdI) (k:AOut→Option α):Option α:=
 if 0≤i∧i < (l.length:Int) then
  afterL (iterL N (alF cx cy sd w h pb po fl ke sw be we b m (k (b1 false))) (st10 0 (l.getD i.toNat bdD))) fun id y=>if id=0 then k (b1 (bdEq y.bd e)) else none
 else none
end
set_option maxRecDepth 100000 in
theorem aln_text (N n0:Nat) (α:Type) (cx cy sd w h:Int) (pb po:List Int) (fl ke sw be we:Int) (b:List BrI) (wh el:Int) (l:List BdI) (i m:Int) (ea eb ex ey eu ev es:Int) (eo:Bool) (k:AOut→Option α):evFn real tab ((twY fnAl spL).env real tab N (n0 + 8)) N Tryz.f15 α [.agg [.int .i64 cx,.int .i64 cy,.int .i64 sd,.int .i64 w,.int .i64 h,.ro (.int .i64) pb,.ro (.int .i64) po,.int .i64 fl,.int .i64 ke,.int .i64 sw,.int .i64 be,.int .i64 we,.ro (.recd (.cons (.int .i64) (.cons (.int .i64) (.cons (.int .i64) .nil)))) b,.int .i64 wh,.int .i64 el],.ro (.recd (.cons (.int .i64) (.cons (.int .i64) (.cons (.recd (.cons (.recd (.cons (.int .i64) (.cons (.int .i64) .nil))) (.cons (.recd (.cons (.int .i64) (.cons (.int .i64) .nil))) (.cons (.int .i64) .nil)))) (.cons .bool .nil))))) l,.int .i64 i,.int .i64 m,.agg [.int .i64 ea,.int .i64 eb,.int .i64 ex,.int .i64 ey,.int .i64 eu,.int .i64 ev,.int .i64 es,.bool eo]] k =
 bif i != wh then alT cx cy sd w h pb po fl ke sw be we N [] l i m (ea,eb,((ex,ey,()),(eu,ev,()),es,()),eo,()) k else alT cx cy sd w h pb po fl ke sw be we N b l i m (ea,
 eb,((ex,ey,()),(eu,ev,()),es,()),eo,()) k:=by kernel_rfl
noncomputable def alP (sl bd:Int→Int→Int) (st:Int→Int):Nat→Int→BdI→Option BdI
 | 0,_,b=>some b
 | n + 1,t,b=>match glB sl bd (st t) b with
   | none=>none
   | some b'=>alP sl bd st n (t + 1) (gnB b')
def calm (b:BdI):Bool:=!rstB b || (b.o || !gonB b.x b.y)
theorem gn_calm (b:BdI):calm (gnB b)=true:=by
 unfold gnB calm
 cases ho:b.o
 ·cases hg:gonB b.x b.y
  ·simp only [Bool.not_false,Bool.and_false,cond_false,hg,Bool.or_true]
  ·simp only [Bool.not_false,Bool.and_true,cond_true]
   rw [show b.off.o=true from rfl,Bool.true_or,Bool.or_true]
 ·simp only [Bool.not_true,Bool.false_and,cond_false,ho,Bool.true_or,Bool.or_true]
theorem gl_stop {sl bd:Int→Int→Int} {n:Int} {b:BdI} (h:(b.o || rstB b)=true):glB sl bd n b=some b:=by
 unfold glB
 cases ho:b.o
 ·rw [ho,Bool.false_or] at h; rw [h]; rfl
 ·rfl
theorem gn_stop {b:BdI} (h:(b.o || rstB b)=true) (hc:calm b=true):gnB b=b:=by
 unfold gnB
 cases ho:b.o
 ·rw [ho,Bool.false_or] at h
  unfold calm at hc
  rw [h,ho] at hc
  have:gonB b.x b.y=false:=by simpa using hc
  rw [this]; rfl
 ·rfl
theorem al_stop (sl bd:Int→Int→Int) (st:Int→Int):∀ (n:Nat) (t:Int) {b:BdI},(b.o || rstB b)=true→calm b=true→alP sl bd st n t b=some b
 | 0,_,_,_,_=>rfl
 | n + 1,t,b,h,hc=>by
   rw [alP,gl_stop h]
   simp only
   rw [gn_stop h hc]
   exact al_stop sl bd st n (t + 1) h hc
section
variable {α:Type} (cx cy sd w h:Int) (pb po:List Int) (fl ke sw be we:Int)
theorem al_loop (hi:iceB cx cy sd w h pb po=true) (hg:graB fl ke sw be we=true) {b:List BrI} (hb:brsB b=true) {m:Int} (hm:m≤6000) (R:Option α) (K:Nat→S10→Option α) (r:BdI) (hK:∀ t,K 0 (st10 t r)=K 0 (st10 0 r)):∀ (n:Nat) (t:Int) (B:BdI) (M:Nat),0≤t→t + n=m→bdOk B=true→calm B=true→alP (slwV cx cy sd w h pb po fl ke sw be we) (bdvV cx cy sd w h pb po fl ke sw be we) (fun t=>strN b t) n t B=some r→n < M →
 afterL (iterL M (alF cx cy sd w h pb po fl ke sw be we b m R) (st10 t B)) K=K 0 (st10 0 r)
 | 0,t,B,M,h0,ht,hB,hc,hr,hM=>by
   obtain ⟨M,rfl⟩:∃ q,M=q + 1:=⟨M - 1,by omega⟩
   have e:alF cx cy sd w h pb po fl ke sw be we b m R (st10 t B)=some (.brk 0 (st10 t B)):=by
    unfold alF
    rw [show decide ((st10 t B).1 < m)=false from decide_eq_false (by show ¬ t < m; omega),cond_false]
   rw [iterL,e]
   cases hr
   exact hK t
 | n + 1,t,B,M,h0,ht,hB,hc,hr,hM=>by
   obtain ⟨M,rfl⟩:∃ q,M=q + 1:=⟨M - 1,by omega⟩
   have hlt:decide ((st10 t B).1 < m)=true:=decide_eq_true (by show t < m; omega)
   cases hs:(B.o || rstB B)
   ·rw [Bool.or_eq_false_iff] at hs
    obtain ⟨ho,hrs⟩:=hs
    have hall:b.all brmB=true:=by unfold brsB at hb; rw [Bool.and_eq_true] at hb; exact hb.2
    have htk:tckB t=true:=by unfold tckB; simp; omega
    have hrt:rgtB cx cy sd w h pb po fl ke sw be we B.x B.y B.u B.v B.s (strN b t)=true:=by
     unfold rgtB
     rw [hi,hg,show movB B.x B.y B.u B.v B.s=true from bd_mov hB,show grnB (strN b t)=true from in_dec.2 (str_in hall t)]; rfl
    rw [alP] at hr
    unfold glB at hr
    rw [ho,hrs] at hr
    simp only [cond_false] at hr
    have e:alF cx cy sd w h pb po fl ke sw be we b m R (st10 t B)=tkStep (slwV cx cy sd w h pb po fl ke sw be we B.x B.y) (bdvV cx cy sd w h pb po fl ke sw be we B.x B.y) B.x B.y B.u B.v B.s (strN b t)
     (fun a c d e g=>bif !rbodB B.1 B.2.1 a c d e g then finL R else
      bif gonB a c then some (.cont (IntKind.i64.wrap (t + 1),B.1,B.2.1,a,c,0,0,0,true,()))
      else some (.cont (IntKind.i64.wrap (t + 1),B.1,B.2.1,a,c,d,e,g,B.o,()))) (finL R):=by
     unfold alF
     rw [hlt,cond_true]
     show (bif !B.o then bif !(B.u==0&&B.v==0) then bif er2 (brsB b&&tckB t)==0 then bif rgtB cx cy sd w h pb po fl ke sw be we B.x B.y B.u B.v B.s (selI (brsB b&&tckB t) (strN b t)) then _ else _ else _ else _ else _)=_
     rw [ho,Bool.not_false,cond_true,show (B.u==0&&B.v==0)=false from by unfold rstB at hrs; rw [Bool.and_true] at hrs; exact hrs,Bool.not_false,cond_true,hb,htk]
     show (bif rgtB cx cy sd w h pb po fl ke sw be we B.x B.y B.u B.v B.s (strN b t) then _ else _)=_
     rw [hrt,cond_true]
     rfl
    rw [iterL,e,gnS_step _ _ (B.x,B.y,B.u,B.v,B.s)]
    cases hn:gnS (slwV cx cy sd w h pb po fl ke sw be we B.x B.y) (bdvV cx cy sd w h pb po fl ke sw be we B.x B.y) (B.x,B.y,B.u,B.v,B.s) (strN b t) with
    | none=>rw [hn] at hr; cases hr
    | some s=>
      rw [hn] at hr
      simp only at hr
      have hv:=gnS_mov _ _ _ _ _ (bd_mov hB) hn
      have hB':bdOk (B.mv s.1 s.2.1 s.2.2.1 s.2.2.2.1 s.2.2.2.2)=true:=by
       have a:=bod_is.1 hB
       obtain ⟨⟨p1,p2⟩,⟨v1,v2⟩,s1⟩:=mov_iff.1 hv
       exact bod_is.2 ⟨a.t,a.n,p1,p2,v1,v2,s1⟩
      have hrb:rbodB B.1 B.2.1 s.1 s.2.1 s.2.2.1 s.2.2.2.1 s.2.2.2.2=true:=(rbod_eq ..).trans hB'
      have ew:IntKind.i64.wrap (t + 1)=t + 1:=i64_in _ (by omega)
      have ih:=al_loop hi hg hb hm R K r hK n (t + 1) (gnB (B.mv s.1 s.2.1 s.2.2.1 s.2.2.2.1 s.2.2.2.2)) M (by omega) (by omega) (gn_ok hB') (gn_calm _) hr (by omega)
      simp only [hrb,Bool.not_true,cond_false,ew]
      unfold gnB at ih
      rw [show (B.mv s.1 s.2.1 s.2.2.1 s.2.2.2.1 s.2.2.2.2).o=B.o from rfl,ho,show gonB (B.mv s.1 s.2.1 s.2.2.1 s.2.2.2.1 s.2.2.2.2).x (B.mv s.1 s.2.1 s.2.2.1 s.2.2.2.1 s.2.2.2.2).y=gonB s.1 s.2.1 from rfl] at ih
      cases hgn:gonB s.1 s.2.1
      ·rw [hgn] at ih
       refine Eq.trans ?_ ih
       show afterL (iterL M _ (t + 1,B.1,B.2.1,s.1,s.2.1,s.2.2.1,s.2.2.2.1,s.2.2.2.2,B.o,())) K=_
       rfl
      ·rw [hgn] at ih
       exact ih
   ·rw [al_stop _ _ _ (n + 1) t hs hc] at hr
    have hBr:B=r:=Option.some.inj hr
    subst hBr
    have e:alF cx cy sd w h pb po fl ke sw be we b m R (st10 t B)=some (.brk 0 (st10 t B)):=by
     unfold alF
     rw [hlt,cond_true]
     show (bif !B.o then bif !(B.u==0&&B.v==0) then _ else some (LRes.brk 0 (st10 t B)) else some (LRes.brk 0 (st10 t B)))=some (LRes.brk 0 (st10 t B))
     cases ho:B.o
     ·rw [ho,Bool.false_or] at hs
      unfold rstB at hs
      rw [Bool.and_true] at hs
      rw [hs]; rfl
     ·rfl
    rw [iterL,e]
    exact hK t
end
def stA (wh:Int) (b:List BrI) (i t:Int):Int:=bif i==wh then strN b t else 0
noncomputable def alO (cx cy sd w h:Int) (pb po:List Int) (fl ke sw be we:Int) (b:List BrI) (wh:Int) (l:List BdI) (i m:Int):Option BdI:=alP (slwV cx cy sd w h pb po fl ke sw be we) (bdvV cx cy sd w h pb po fl ke sw be we) (stA wh b i) m.toNat 0 (l.getD i.toNat bdD)
noncomputable def alB (cx cy sd w h:Int) (pb po:List Int) (fl ke sw be we:Int) (b:List BrI) (wh:Int) (l:List BdI) (i m:Int):Bool:=
 iceB cx cy sd w h pb po&&(graB fl ke sw be we&&(brsB b&&((decide (0≤i)&&decide (i < (l.length:Int)))&&((decide (0≤m)&&decide (m≤6000))&&(bdOk (l.getD i.toNat bdD)&&(calm (l.getD i.toNat bdD)&&(alO cx cy sd w h pb po fl ke sw be we b wh l i m).isSome))))))
noncomputable def alnS:Fsp:=fun _ args k=>match args with
 | [.agg [.int .i64 cx,.int .i64 cy,.int .i64 sd,.int .i64 w,.int .i64 h,.ro (.int .i64) pb,.ro (.int .i64) po,.int .i64 fl,.int .i64 ke,.int .i64 sw,.int .i64 be,.int .i64 we,.ro (.recd (.cons (.int .i64) (.cons (.int .i64) (.cons (.int .i64) .nil)))) b,.int .i64 wh,.int .i64 el],.ro (.recd (.cons (.int .i64) (.cons (.int .i64) (.cons (.recd (.cons (.recd (.cons (.int .i64) (.cons (.int .i64) .nil))) (.cons (.recd (.cons (.int .i64) (.cons (.int .i64) .nil))) (.cons (.int .i64) .nil)))) (.cons .bool .nil))))) l,.int .i64 i,.int .i64 m,.agg [.int .i64 ea,.int .i64 eb,.int .i64 ex,.int .i64 ey,.int .i64 eu,.int .i64 ev,.int .i64 es,.bool eo]]=>bif alB cx cy sd w h pb po fl ke sw be we b wh l i m then k (b1 (bdEq ((alO cx cy sd w h pb po fl ke sw be we b wh l i m).getD bdD) (ea,eb,((ex,ey,()),(eu,ev,()),es,()),eo,()))) else none
 | _=>none
theorem alnS_ok:FspOk Tryz.prog 15 alnS:=tower_Y fnAl_ok spL_ok ⟨Tryz.func15,fun _ _=>by kernel_rfl⟩ (by intro α args k; unfold alnS; split<;>simp only [cond_bind,Option.bind_some,Option.bind_none]) fun args out hSm hEq=>by
 unfold alnS at hEq
 split at hEq
 ·rename_i cx cy sd w h pb po fl ke sw be we b wh el l i m ea eb ex ey eu ev es eo
  cases hc:alB cx cy sd w h pb po fl ke sw be we b wh l i m
  ·rw [hc] at hEq; cases hEq
  ·rw [hc,cond_true] at hEq
   unfold alB at hc
   simp only [Bool.and_eq_true,decide_eq_true_eq] at hc
   obtain ⟨hi,hg,hb,hix,hm,hB,hcm,hr⟩:=hc
   cases ho:alO cx cy sd w h pb po fl ke sw be we b wh l i m with
   | none=>rw [ho] at hr; cases hr
   | some r=>
     rw [ho] at hEq
     refine ⟨m.toNat + 1,8,(aln_text (m.toNat + 1) 0 AOut cx cy sd w h pb po fl ke sw be we b wh el l i m ea eb ex ey eu ev es eo some).trans (Eq.trans ?_ hEq)⟩
     have key:∀ bb:List BrI,brsB bb=true→(∀ t,stA wh b i t=strN bb t)→alT cx cy sd w h pb po fl ke sw be we (m.toNat + 1) bb l i m (ea,eb,((ex,ey,()),(eu,ev,()),es,()),eo,()) some=some (b1 (bdEq ((some r).getD bdD) (ea,eb,((ex,ey,()),(eu,ev,()),es,()),eo,()))):=fun bb hbb hst=>by
      unfold alT
      rw [if_pos hix]
      refine (al_loop cx cy sd w h pb po fl ke sw be we hi hg hbb (m:=m) hm.2 _ _ r (fun t=>rfl) m.toNat 0 (l.getD i.toNat bdD) (m.toNat + 1) (by omega) (by omega) hB hcm ?_ (by omega)).trans rfl
      rw [← ho]
      unfold alO
      rw [show stA wh b i=fun t=>strN bb t from funext hst]
      rfl
     cases hw:(i==wh)
     ·rw [show (i != wh)=true from by unfold bne; rw [hw]; rfl,cond_true]
      exact key [] rfl fun t=>by unfold stA; rw [hw]; rfl
     ·rw [show (i != wh)=false from by unfold bne; rw [hw]; rfl,cond_false]
      exact key b hb fun t=>by unfold stA; rw [hw]; rfl
 ·cases hEq
theorem rns_gen {t el:Int} (I:PsI→Prop) (n:Nat) (hl:∀ s,I s→s.1.length=n) (hf:∀ s f,I s→I (s.1,s.2.1,f)) (hp:∀ a c (s s':PsI),a < c→c < n→I s→pcP t el a c s=some s'→I s'):∀ (m:Nat) {s s':PsI},I s→rnsP t el m s=some s'→I s'
 | 0,s,s',hs,h=>by cases h; exact hs
 | m + 1,s,s',hs,h=>by
   rw [rnsP] at h
   cases hr:rdP t el s with
   | none=>rw [hr] at h; cases h
   | some s1=>
     rw [hr] at h
     simp only at h
     have hv:I s1:=by
      unfold rdP at hr
      rw [hl _ hs] at hr
      refine foldO_inv (step:=rwP t el n) (inv:=fun _ s=>I s) (n:=n) (fun a u u' ha hu hst=>?_) n 0 (s.1,s.2.1,false) s1 (by omega) (hf _ _ hs) hr
      unfold rwP at hst
      exact (foldO_inv (step:=pcP t el a) (inv:=fun c (s:PsI)=>a < c∧I s) (n:=n) (fun c v v' hc hv hst=>⟨by omega,hp a c v v' hv.1 hc hv.2 hst⟩) (n - (a + 1)) (a + 1) u u' (by omega) ⟨by omega,hu⟩ hst).2
     cases hm:s1.2.2
     ·rw [hm] at h; cases h; exact hv
     ·rw [hm] at h; exact rns_gen I n hl hf hp m hv h
theorem gl_at {sl bd:Int→Int→Int} {st:Nat→Int}:∀ (k m:Nat) (S S':List BdI),m + k=S.length→foldO (glP sl bd st) k m S=some S'→S'.length=S.length∧∀ j,(j < m→S'.getD j bdD=S.getD j bdD)∧(m≤j→j < S.length→glB sl bd (st j) (S.getD j bdD)=some (S'.getD j bdD))
 | 0,m,S,S',hm,h=>by cases h; exact ⟨rfl,fun j=>⟨fun _=>rfl,fun h1 h2=>by omega⟩⟩
 | k + 1,m,S,S',hm,h=>by
   rw [foldO] at h
   unfold glP at h
   cases hb:glB sl bd (st m) (S.getD m bdD) with
   | none=>rw [hb] at h; cases h
   | some b=>
     rw [hb] at h
     simp only at h
     obtain ⟨e,hj⟩:=gl_at k (m + 1) (S.set m b) S' (by rw [List.length_set]; omega) h
     rw [List.length_set] at e
     refine ⟨e,fun j=>⟨fun h1=>?_,fun h1 h2=>?_⟩⟩
     ·rw [(hj j).1 (by omega),getD_set,if_neg (by omega)]
     ·by_cases hjm:j=m
      ·subst hjm
       rw [hb,(hj j).1 (by omega),getD_set,if_pos ⟨rfl,by omega⟩]
      ·have:=(hj j).2 (by omega) (by rw [List.length_set]; exact h2)
       rw [getD_set,if_neg (by omega)] at this
       exact this
def hitB (H:List HtI) (k:Nat):Bool:=H.any fun x=>x.2.1==(k:Int) || x.2.2.1==(k:Int)
structure PsH (t:Int) (S1:List BdI) (s:PsI):Prop where
 len:s.1.length=S1.length
 hits:∀ x∈s.2.1,x.1=t∧0≤x.2.1∧x.2.1 < x.2.2.1∧x.2.2.1 < (S1.length:Int)
 at':∀ k,hitB s.2.1 k=false→s.1.getD k bdD=S1.getD k bdD
theorem hit_app (A B:List HtI) (k:Nat):hitB (A++B) k=(hitB A k || hitB B k):=by unfold hitB; rw [List.any_append]
theorem tk_alone {sl bd:Int→Int→Int} {st:Nat→Int} {t el:Int} {l:List BdI} {p:List BdI × List HtI} (h:tkP sl bd st t el l=some p) :
 (∀ x∈p.2,x.1=t∧0≤x.2.1∧x.2.1 < x.2.2.1∧x.2.2.1 < (l.length:Int))∧∀ k,k < l.length→hitB p.2 k=false→∃ b',glB sl bd (st k) (l.getD k bdD)=some b'∧p.1.getD k bdD=gnB b':=by
 unfold tkP glL at h
 cases h1:foldO (glP sl bd st) l.length 0 l with
 | none=>rw [h1] at h; cases h
 | some S1=>
   rw [h1] at h
   simp only at h
   obtain ⟨e1,hg⟩:=gl_at l.length 0 l S1 (by omega) h1
   cases h2:rnsP t el 8 (S1,[],true) with
   | none=>rw [h2] at h; cases h
   | some s=>
     rw [h2] at h
     cases h
     have hv:PsH t S1 s:=rns_gen (PsH t S1) S1.length (fun s h=>h.len) (fun s f h=>⟨h.len,h.hits,h.at'⟩) (fun a c s s' hac hc hs hst=>by
      rcases pc_cases hst with rfl | ⟨q1,q2,rfl⟩
      ·exact hs
      ·refine ⟨by simp only [List.length_set]; exact hs.len,fun x hx=>?_,fun k hk=>?_⟩
       ·rcases List.mem_append.1 hx with hx | hx
        ·exact hs.hits x hx
        ·rw [List.mem_singleton.1 hx]
         exact ⟨rfl,by show (0:Int)≤a; omega,by show (a:Int) < c; omega,by show (c:Int) < S1.length; omega⟩
       ·rw [hit_app,Bool.or_eq_false_iff] at hk
        obtain ⟨k1,k2⟩:=hk
        have k3:¬ (a=k∨c=k):=fun hh=>by
         unfold hitB at k2
         rw [List.any_cons,Bool.or_eq_false_iff,Bool.or_eq_false_iff] at k2
         have ka:=k2.1.1
         have kc:=k2.1.2
         rcases hh with rfl | rfl
         ·simp at ka
         ·simp at kc
        have ha:a≠k:=fun e=>k3 (.inl e)
        have hcq:c≠k:=fun e=>k3 (.inr e)
        show ((s.1.set a _).set c _).getD k bdD=_
        rw [getD_set,if_neg fun q=>hcq q.1,getD_set,if_neg fun q=>ha q.1]
        exact hs.at' k k1) 8 (s:=(S1,[],true)) ⟨rfl,fun x hx=>(by cases hx),fun _ _=>rfl⟩ h2
     refine ⟨fun x hx=>?_,fun k hk hh=>?_⟩
     ·have:=hv.hits x hx
      rw [e1] at this
      exact this
     ·refine ⟨S1.getD k bdD,(hg k).2 (by omega) hk,?_⟩
      show (s.1.map gnB).getD k bdD=_
      rw [getD_gn,hv.at' k hh]
def risT (H:List HtI):Prop:=∀ i j,i < j→j < H.length→(H.getD i (0,0,0,())).1≤(H.getD j (0,0,0,())).1
theorem getD_app {X:Type} (A B:List X) (d:X) (i:Nat):(A++B).getD i d=if i < A.length then A.getD i d else B.getD (i - A.length) d:=by
 rw [List.getD_eq_getElem?_getD,List.getElem?_append]
 split<;>rw [List.getD_eq_getElem?_getD]
theorem mem_getD {X:Type} (A:List X) (d:X) {i:Nat} (h:i < A.length):A.getD i d∈A:=by
 rw [List.getD_eq_getElem?_getD,List.getElem?_eq_getElem h]
 exact List.getElem_mem h
structure HtsI (n:Nat) (t:Int) (H:List HtI):Prop where
 at':∀ x∈H,0≤x.1∧x.1 < t∧0≤x.2.1∧x.2.1 < x.2.2.1∧x.2.2.1 < (n:Int)
 ris:risT H
theorem hts_app {n:Nat} {t:Int} {H B:List HtI} (h:HtsI n t H) (h0:0≤t) (hB:∀ x∈B,x.1=t∧0≤x.2.1∧x.2.1 < x.2.2.1∧x.2.2.1 < (n:Int)):HtsI n (t + 1) (H++B):=by
 refine ⟨fun x hx=>?_,fun i j hij hj=>?_⟩
 ·rcases List.mem_append.1 hx with hx | hx
  ·obtain ⟨a,b,c⟩:=h.at' x hx
   exact ⟨a,by omega,c⟩
  ·obtain ⟨a,c⟩:=hB x hx
   exact ⟨by omega,by omega,c⟩
 ·rw [List.length_append] at hj
  rw [getD_app,getD_app]
  by_cases h1:j < H.length
  ·rw [if_pos (by omega),if_pos h1]; exact h.ris i j hij h1
  ·rw [if_neg h1]
   have e:=(hB _ (mem_getD B (0,0,0,()) (show j - H.length < B.length by omega))).1
   by_cases h2:i < H.length
   ·rw [if_pos h2]
    have:=(h.at' _ (mem_getD H (0,0,0,()) h2)).2.1
    omega
   ·rw [if_neg h2]
    have:=(hB _ (mem_getD B (0,0,0,()) (show i - H.length < B.length by omega))).1
    omega
theorem sh_errA {tk:Int→List BdI→Option (List BdI × List HtI)}:∀ (n:Nat) (t:Int) (S:List BdI) (hs:List HtI) {e:Int},shP tk n t S hs=.inl e→e=4∨e=3
 | 0,t,S,hs,e,h=>by cases h
 | n + 1,t,S,hs,e,h=>by
   rw [shP] at h
   cases ha:S.any mvg
   ·rw [ha] at h; cases h
   ·rw [ha,cond_true] at h
    cases hp:tk t S with
    | none=>rw [hp] at h; cases h; exact .inl rfl
    | some p=>
      rw [hp] at h
      simp only at h
      cases hc:decide ((hs++p.2).length≤4096)
      ·rw [hc] at h; cases h; exact .inr rfl
      ·rw [hc] at h; exact sh_errA n (t + 1) p.1 (hs++p.2) h
theorem sh_len {tk:Int→List BdI→Option (List BdI × List HtI)}:∀ (n:Nat) (t:Int) (S:List BdI) (hs:List HtI) {p},hs.length≤4096→shP tk n t S hs=.inr p→p.2.2.length≤4096
 | 0,t,S,hs,p,hl,h=>by cases h; exact hl
 | n + 1,t,S,hs,p,hl,h=>by
   rw [shP] at h
   cases ha:S.any mvg
   ·rw [ha] at h; cases h; exact hl
   ·rw [ha,cond_true] at h
    cases hp:tk t S with
    | none=>rw [hp] at h; cases h
    | some q=>
      rw [hp] at h
      simp only at h
      cases hc:decide ((hs++q.2).length≤4096)
      ·rw [hc] at h; cases h
      ·rw [hc] at h; exact sh_len n (t + 1) q.1 (hs++q.2) (of_decide_eq_true hc) h
section
variable (cx cy sd w h:Int) (pb po:List Int) (fl ke sw be we:Int) (b:List BrI) (wh el:Int)
theorem sh_alone:∀ (n:Nat) (t:Int) (S:List BdI) (hs:List HtI) {p},0≤t→sceB S=true→HtsI S.length t hs→shP (tkV5 cx cy sd w h pb po fl ke sw be we b wh el) n t S hs=.inr p →
 t≤p.2.1∧p.2.1≤t + n∧p.1.length=S.length∧HtsI S.length p.2.1 p.2.2∧(∀ k,hitB hs k=true→hitB p.2.2 k=true) ∧
 ∀ k,k < S.length→hitB p.2.2 k=false→calm (S.getD k bdD)=true→alP (slwV cx cy sd w h pb po fl ke sw be we) (bdvV cx cy sd w h pb po fl ke sw be we) (stA wh b (k:Int)) (p.2.1 - t).toNat t (S.getD k bdD)=some (p.1.getD k bdD)
 | 0,t,S,hs,p,h0,hS,hH,e=>by
   cases e
   exact ⟨Int.le_refl _,by show t≤t + _; omega,rfl,hH,fun _ h=>h,fun k hk _ _=>by rw [show ((S,t,hs):List BdI × Int × List HtI).2.1=t from rfl,Int.sub_self]; rfl⟩
 | n + 1,t,S,hs,p,h0,hS,hH,e=>by
   rw [shP] at e
   cases ha:S.any mvg
   ·rw [ha] at e
    cases e
    exact ⟨Int.le_refl _,by show t≤t + _; omega,rfl,hH,fun _ h=>h,fun k hk _ _=>by rw [show ((S,t,hs):List BdI × Int × List HtI).2.1=t from rfl,Int.sub_self]; rfl⟩
   ·rw [ha,cond_true] at e
    cases hp:tkV5 cx cy sd w h pb po fl ke sw be we b wh el t S with
    | none=>rw [hp] at e; cases e
    | some q=>
      rw [hp] at e
      simp only at e
      cases hc:decide ((hs++q.2).length≤4096)
      ·rw [hc] at e; cases e
      ·rw [hc,cond_true] at e
       have hv:=tk_valid (S':=q.1) (H:=q.2) hS hp
       obtain ⟨q1,q2⟩:=tk_alone hp
       have hH':HtsI q.1.length (t + 1) (hs++q.2):=by rw [hv.2]; exact hts_app hH h0 q1
       obtain ⟨i1,i2,i3,i4,i5,i6⟩:=sh_alone n (t + 1) q.1 (hs++q.2) (by omega) hv.1 hH' e
       rw [hv.2] at i3 i4 i6
       refine ⟨by omega,by omega,i3,i4,fun k hk=>i5 k (by rw [hit_app,hk]; rfl),fun k hk hn hcm=>?_⟩
       have hq:hitB q.2 k=false:=by
        cases hx:hitB q.2 k
        ·rfl
        ·rw [i5 k (by rw [hit_app,hx,Bool.or_true])] at hn; cases hn
       obtain ⟨b',g1,g2⟩:=q2 k hk hq
       have ih:=i6 k hk hn (by rw [g2]; exact gn_calm b')
       rw [show (p.2.1 - t).toNat=(p.2.1 - (t + 1)).toNat + 1 by omega,alP]
       have g1':glB (slwV cx cy sd w h pb po fl ke sw be we) (bdvV cx cy sd w h pb po fl ke sw be we) (stA wh b (k:Int) t) (S.getD k bdD)=some b':=g1
       rw [g1']
       simp only
       rw [← g2]
       exact ih
end
noncomputable def fsAl:FuncId→Option Fsp:=fun g=>
 if g=7 then some trueS else
 if g=8 then some cshotTS else
 if g=15 then some alnS else
 fnAl g
theorem fsAl_ok:FsOk fsAl:=
 fs_cons aliveS_ok <|
 fs_cons cshotTS_ok <|
 fs_cons alnS_ok <|
 fnAl_ok
abbrev hzD:HtI:=(0,0,0,())
abbrev SH:=Int × List Bool × Unit
def ahS {α:Type} (X:HtI) (x:SH):Option (LRes SH α):=
 if 0≤X.2.1∧X.2.1 < (x.2.1.length:Int) then
  if 0≤X.2.2.1∧X.2.2.1 < ((x.2.1.set X.2.1.toNat true).length:Int) then some (.cont (IntKind.i64.wrap (x.1 + 1),(x.2.1.set X.2.1.toNat true).set X.2.2.1.toNat true,())) else none
 else none
def ahF {α:Type} (l:List BdI) (H:List HtI) (T:Int) (R:Option α) (x:SH):Option (LRes SH α):=
 bif decide (x.1 < (H.length:Int)) then
  if 0≤x.1∧x.1 < (H.length:Int) then
   bif decide ((H.getD x.1.toNat hzD).2.1 < 0) then finL R else
   bif decide ((H.getD x.1.toNat hzD).2.1 ≥ (H.getD x.1.toNat hzD).2.2.1) then finL R else
   bif decide ((H.getD x.1.toNat hzD).2.2.1 ≥ (l.length:Int)) then finL R else
   bif decide ((H.getD x.1.toNat hzD).1 < 0) then finL R else
   bif decide ((H.getD x.1.toNat hzD).1 ≥ T) then finL R else
   bif decide (x.1 > 0) then
    if 0≤IntKind.i64.wrap (x.1 - 1)∧IntKind.i64.wrap (x.1 - 1) < (H.length:Int) then
     bif decide ((H.getD x.1.toNat hzD).1 < (H.getD (IntKind.i64.wrap (x.1 - 1)).toNat hzD).1) then finL R else ahS (H.getD x.1.toNat hzD) x
    else none
   else ahS (H.getD x.1.toNat hzD) x
  else none
 else some (.brk 0 (x.1,x.2.1,()))
def ebB (b:BdI):BdI:=(b.1,b.2.1,((b.x,b.y,()),(b.u,b.v,()),b.s,()),b.o,())
noncomputable def abK {α:Type} (aB:Int→Bool) (aO:Int→Option BdI) (hit:List Bool) (L:List BdI) (R:Option α) (x:Int × Unit):Option (LRes (Int × Unit) α):=
 if 0≤x.1∧x.1 < (hit.length:Int) then
  bif hit.getD x.1.toNat false then some (.cont (IntKind.i64.wrap (x.1 + 1),()))
  else if 0≤x.1∧x.1 < (L.length:Int) then
   bif aB x.1 then bif !bdEq ((aO x.1).getD bdD) (ebB (L.getD x.1.toNat bdD)) then finL R else some (.cont (IntKind.i64.wrap (x.1 + 1),())) else none
  else none
 else none
noncomputable def abF {α:Type} (l:List BdI) (aB:Int→Bool) (aO:Int→Option BdI) (hit:List Bool) (L:List BdI) (R:Option α) (x:Int × Unit):Option (LRes (Int × Unit) α):=
 bif decide (x.1 < (l.length:Int)) then
  if 0≤x.1∧x.1 < (l.length:Int) then
   bif !rbodB (l.getD x.1.toNat bdD).1 (l.getD x.1.toNat bdD).2.1 (l.getD x.1.toNat bdD).x (l.getD x.1.toNat bdD).y (l.getD x.1.toNat bdD).u (l.getD x.1.toNat bdD).v (l.getD x.1.toNat bdD).s then
    if 0≤x.1∧x.1 < (l.length:Int) then
     bif (l.getD x.1.toNat bdD).u==0&&(l.getD x.1.toNat bdD).v==0 then (if 0≤x.1∧x.1 < (l.length:Int) then finL R else none) else finL R
    else none
   else if 0≤x.1∧x.1 < (l.length:Int) then
    bif (l.getD x.1.toNat bdD).u==0&&(l.getD x.1.toNat bdD).v==0 then
     if 0≤x.1∧x.1 < (l.length:Int) then
      bif !(l.getD x.1.toNat bdD).o then
       bif gonB (l.getD x.1.toNat bdD).x (l.getD x.1.toNat bdD).y then some (.cont (IntKind.i64.wrap (x.1 + 1),())) else abK aB aO hit L R x
      else abK aB aO hit L R x
     else none
    else abK aB aO hit L R x
   else none
  else none
 else some (.brk 2 (x.1,()))
noncomputable def aaT {α:Type} (N:Nat) (c:Bool) (o:ShO) (l:List BdI) (aB:Int→Int→Bool) (aO:Int→Int→Option BdI) (k:AOut→Option α):Option α:=
 bif cshZ c o != 0 then k (b1 (((cshL c o).length:Int)==0)) else
  if 0≤(l.length:Int)∧(l.length:Int)≤(l.length:Int)∧(l.length:Int) * ((1:Nat):Int)≤(room:Int) then
   afterL (iterL N (ahF l (cshH c o) (cshT c o) (k (b1 false))) (0,List.replicate (l.length:Int).toNat false,())) fun id y=>if id=0 then
    bif ((cshL c o).length:Int) != (l.length:Int) then k (b1 false) else
     afterL (iterL N (abF l (fun i=>aB i (cshT c o)) (fun i=>aO i (cshT c o)) y.2.1 (cshL c o) (k (b1 false))) (0,())) fun id _=>if id=2 then k (b1 true) else none
   else none
  else none
set_option maxRecDepth 100000 in
theorem alaw_text (N n0:Nat) (α:Type) (cx cy sd w h:Int) (pb po:List Int) (fl ke sw be we:Int) (b:List BrI) (wh el:Int) (l:List BdI) (m:Int) (k:AOut→Option α):evFn real tab ((twY fsAl spL).env real tab N (n0 + 8)) N Tryz.f4 α [.agg [.int .i64 cx,.int .i64 cy,.int .i64 sd,.int .i64 w,.int .i64 h,.ro (.int .i64) pb,.ro (.int .i64) po,.int .i64 fl,.int .i64 ke,.int .i64 sw,.int .i64 be,.int .i64 we,.ro (.recd (.cons (.int .i64) (.cons (.int .i64) (.cons (.int .i64) .nil)))) b,.int .i64 wh,.int .i64 el],.ro (.recd (.cons (.int .i64) (.cons (.int .i64) (.cons (.recd (.cons (.recd (.cons (.int .i64) (.cons (.int .i64) .nil))) (.cons (.recd (.cons (.int .i64) (.cons (.int .i64) .nil))) (.cons (.int .i64) .nil)))) (.cons .bool .nil))))) l,.int .u8 m] k =
 bif decide ((pb.length:Int) > 200) then k (b1 true) else bif decide ((po.length:Int) > 200) then k (b1 true) else bif decide ((b.length:Int) > 66) then k (b1 true) else bif
 decide ((l.length:Int) > 18) then k (b1 true) else aaT N (cshB cx cy sd w h pb po fl ke sw be we l b wh el ((IntKind.i64.wrap m).tmod 41)) (shP (tkV5 cx cy sd w h pb po fl ke sw
 be we b wh el) ((IntKind.i64.wrap m).tmod 41).toNat 0 l []) l (alB cx cy sd w h pb po fl ke sw be we b wh l) (alO cx cy sd w h pb po fl ke sw be we b wh l) k:=by kernel_rfl
/-! Who has been hit. -/
def hA (H:List HtI) (n:Nat):Nat→List Bool
 | 0=>List.replicate n false
 | i + 1=>((hA H n i).set (H.getD i hzD).2.1.toNat true).set (H.getD i hzD).2.2.1.toNat true
theorem hA_len (H:List HtI) (n:Nat):∀ i,(hA H n i).length=n
 | 0=>List.length_replicate
 | i + 1=>by rw [hA,List.length_set,List.length_set]; exact hA_len H n i
theorem hA_get {H:List HtI} {n:Nat} {T:Int} (hH:HtsI n T H):∀ i,i≤H.length→∀ k,k < n→(hA H n i).getD k false=hitB (H.take i) k
 | 0,_,k,hk=>by
   rw [hA,List.getD_eq_getElem?_getD,List.getElem?_replicate,if_pos hk]; rfl
 | i + 1,hi,k,hk=>by
   have ih:=hA_get hH i (by omega) k hk
   have q:=hH.at' _ (mem_getD H hzD (show i < H.length by omega))
   have e:H.take (i + 1)=H.take i++[H.getD i hzD]:=by
    rw [List.take_add_one,List.getD_eq_getElem?_getD,List.getElem?_eq_getElem (show i < H.length by omega)]; rfl
   rw [hA,e,hit_app,← ih,getD_set,getD_set,List.length_set,hA_len]
   show _=((hA H n i).getD k false || (((H.getD i hzD).2.1==(k:Int) || (H.getD i hzD).2.2.1==(k:Int)) || false))
   by_cases h2:(H.getD i hzD).2.2.1.toNat=k
   ·rw [if_pos ⟨h2,by omega⟩,show ((H.getD i hzD).2.2.1==(k:Int))=true from by rw [beq_iff_eq]; omega]
    simp
   ·rw [if_neg fun q=>h2 q.1,show ((H.getD i hzD).2.2.1==(k:Int))=false from by rw [beq_eq_false_iff_ne]; omega]
    by_cases h1:(H.getD i hzD).2.1.toNat=k
    ·rw [if_pos ⟨h1,by omega⟩,show ((H.getD i hzD).2.1==(k:Int))=true from by rw [beq_iff_eq]; omega]
     simp
    ·rw [if_neg fun q=>h1 q.1,show ((H.getD i hzD).2.1==(k:Int))=false from by rw [beq_eq_false_iff_ne]; omega]
     simp
theorem aaT_true {α:Type} (cx cy sd w h:Int) (pb po:List Int) (fl ke sw be we:Int) (b:List BrI) (wh el:Int) (l:List BdI) (n:Int) (hl:l.length≤18) (k:AOut→Option α) :
 ∃ N,aaT N (cshB cx cy sd w h pb po fl ke sw be we l b wh el n) (shP (tkV5 cx cy sd w h pb po fl ke sw be we b wh el) n.toNat 0 l []) l (alB cx cy sd w h pb po fl ke sw be we b wh l) (alO cx cy sd w h pb po fl ke sw be we b wh l) k=k (b1 true):=by
 cases hc:cshB cx cy sd w h pb po fl ke sw be we l b wh el n
 ·exact ⟨0,rfl⟩
 cases ho:shP (tkV5 cx cy sd w h pb po fl ke sw be we b wh el) n.toNat 0 l [] with
 | inl e=>
   refine ⟨0,?_⟩
   have:(e != 0)=true:=by rcases sh_errA _ _ _ _ ho with rfl | rfl<;>rfl
   show (bif e != 0 then k (b1 true) else _)=_
   rw [this]; rfl
 | inr p=>
   unfold cshB ctkB at hc
   simp only [Bool.and_eq_true] at hc
   obtain ⟨hic,hg,hs,hb,hw,he,ht⟩:=hc
   have htn:0≤n∧n≤6000:=by unfold tckB at ht; simpa using ht
   obtain ⟨q1,q2,q3,q4,_,q6⟩:=sh_alone cx cy sd w h pb po fl ke sw be we b wh el n.toNat 0 l [] (Int.le_refl 0) hs ⟨fun x hx=>(by cases hx),fun i j _ hj=>absurd hj (Nat.not_lt_zero j)⟩ ho
   obtain ⟨L,T,H⟩:=p
   have q1:0≤T:=q1
   have q2:T≤0 + n.toNat:=q2
   have q3:L.length=l.length:=q3
   have q4:HtsI l.length T H:=q4
   refine ⟨H.length + 20,?_⟩
   unfold aaT
   show (bif (0:Int) != 0 then _ else if 0≤(l.length:Int)∧(l.length:Int)≤(l.length:Int)∧(l.length:Int) * ((1:Nat):Int)≤(room:Int) then
    afterL (iterL (H.length + 20) (ahF l H T (k (b1 false))) (0,List.replicate (l.length:Int).toNat false,())) (fun id y=>if id=0 then
     bif (L.length:Int) != (l.length:Int) then k (b1 false) else
      afterL (iterL (H.length + 20) (abF l (fun i=>alB cx cy sd w h pb po fl ke sw be we b wh l i T) (fun i=>alO cx cy sd w h pb po fl ke sw be we b wh l i T) y.2.1 L (k (b1 false))) (0,())) fun id _=>if id=2 then k (b1 true) else none
    else none) else none)=_
   have hroom:room ≥ 10000:=by decide
   rw [show ((0:Int) != 0)=false from rfl,cond_false,if_pos ⟨by omega,by omega,by omega⟩]
   have hHl:H.length≤maxLen:=by
    have h1:H.length≤4096:=sh_len _ _ _ _ (by simp) ho
    have:maxLen=9223372036854775807:=rfl
    omega
   refine (count_loop (f:=ahF l H T (k (b1 false))) (fun i:Nat=>((i:Int),hA H l.length i,())) H.length (fun i hi=>?_) (y:=((H.length:Int),hA H l.length H.length,())) (b:=0) ?_ (by omega)).trans ?_
   ·have q:=q4.at' _ (mem_getD H hzD hi)
    have step:ahS (α:=α) (H.getD i hzD) ((i:Int),hA H l.length i,())=some (.cont (((i + 1:Nat):Int),hA H l.length (i + 1),())):=by
     unfold ahS
     simp only [List.length_set,hA_len]
     rw [if_pos ⟨by omega,by omega⟩,if_pos ⟨by omega,by omega⟩,wrap_next hi hHl]
     rfl
    unfold ahF
    simp only [lt_len hi,cond_true,in_len hi,if_pos,and_self,decide_true,Int.toNat_natCast]
    rw [show decide ((H.getD i hzD).2.1 < 0)=false from decide_eq_false (by omega),show decide ((H.getD i hzD).2.1 ≥ (H.getD i hzD).2.2.1)=false from decide_eq_false (by omega),show decide ((H.getD i hzD).2.2.1 ≥ (l.length:Int))=false from decide_eq_false (by omega),show decide ((H.getD i hzD).1 < 0)=false from decide_eq_false (by omega),show decide ((H.getD i hzD).1 ≥ T)=false from decide_eq_false (by omega)]
    simp only [cond_false]
    by_cases h0:i=0
    ·subst h0
     rw [show decide (((0:Nat):Int) > 0)=false from rfl,cond_false]
     exact step
    ·have hm:maxLen=9223372036854775807:=rfl
     have ew:IntKind.i64.wrap ((i:Int) - 1)=((i - 1:Nat):Int):=by rw [i64_in _ (by omega)]; omega
     have hr:=q4.ris (i - 1) i (by omega) hi
     rw [show decide ((i:Int) > 0)=true from decide_eq_true (by omega),cond_true,ew,if_pos ⟨by omega,by omega⟩,Int.toNat_natCast,show decide ((H.getD i hzD).1 < (H.getD (i - 1) hzD).1)=false from decide_eq_false (by show ¬ (H.getD i (0,0,0,())).1 < (H.getD (i - 1) (0,0,0,())).1; omega),cond_false]
     exact step
   ·unfold ahF
    simp only [not_lt_len,cond_false]
   ·rw [if_pos rfl,q3,bne_self_eq_false,cond_false]
    have hmx:l.length≤maxLen:=by have:maxLen=9223372036854775807:=rfl; omega
    refine (count_loop (f:=abF l (fun i=>alB cx cy sd w h pb po fl ke sw be we b wh l i T) (fun i=>alO cx cy sd w h pb po fl ke sw be we b wh l i T) (hA H l.length H.length) L (k (b1 false))) (fun i:Nat=>((i:Int),())) l.length (fun i hi=>?_) (y:=((l.length:Int),())) (b:=2) ?_ (by omega)).trans rfl
    ·have hB:=okS_of hs i
     have hrb:rbodB (l.getD i bdD).1 (l.getD i bdD).2.1 (l.getD i bdD).x (l.getD i bdD).y (l.getD i bdD).u (l.getD i bdD).v (l.getD i bdD).s=true:=(rbod_eq ..).trans hB
     have tail:calm (l.getD i bdD)=true→abK (α:=α) (fun i=>alB cx cy sd w h pb po fl ke sw be we b wh l i T) (fun i=>alO cx cy sd w h pb po fl ke sw be we b wh l i T) (hA H l.length H.length) L (k (b1 false)) ((i:Int),())=some (.cont (((i + 1:Nat):Int),())):=fun hcm=>by
      unfold abK
      simp only [hA_len,q3,in_len hi,if_pos,and_self,Int.toNat_natCast,wrap_next hi hmx]
      rw [hA_get q4 H.length (Nat.le_refl _) i hi,List.take_length]
      cases hh:hitB H i
      ·have ha:=q6 i hi hh hcm
       have eO:alO cx cy sd w h pb po fl ke sw be we b wh l (i:Int) T=some (L.getD i bdD):=by
        have ha':alP _ _ (stA wh b (i:Int)) (T - 0).toNat 0 (l.getD i bdD)=some (L.getD i bdD):=ha
        rw [Int.sub_zero] at ha'
        unfold alO
        rw [Int.toNat_natCast]; exact ha'
       have eB:alB cx cy sd w h pb po fl ke sw be we b wh l (i:Int) T=true:=by
        unfold alB
        rw [eO,Int.toNat_natCast,hic,hg,hb,hB,hcm,decide_eq_true (show (0:Int)≤i by omega),decide_eq_true (show (i:Int) < l.length by omega),decide_eq_true q1,decide_eq_true (show T≤6000 by omega)]; rfl
       simp only [cond_false,eO,eB,cond_true]
       rw [show ebB (L.getD i bdD)=L.getD i bdD from rfl,show (some (L.getD i bdD)).getD bdD=L.getD i bdD from rfl,bdEq_refl]
       rfl
      ·rfl
     unfold abF
     simp only [lt_len hi,cond_true,in_len hi,if_pos,and_self,decide_true,Int.toNat_natCast,hrb,Bool.not_true,cond_false]
     cases hr:((l.getD i bdD).u==0&&(l.getD i bdD).v==0)
     ·refine tail ?_
      unfold calm rstB
      rw [Bool.and_true,hr]; rfl
     ·simp only [cond_true]
      cases hoo:(l.getD i bdD).o
      ·cases hgo:gonB (l.getD i bdD).x (l.getD i bdD).y
       ·refine tail ?_
        unfold calm
        rw [hgo,Bool.not_false,Bool.or_true,Bool.or_true]
       ·simp only [Bool.not_false,cond_true,wrap_next hi hmx]
      ·refine tail ?_
       unfold calm
       rw [hoo,Bool.true_or,Bool.or_true]
    ·unfold abF
     simp only [not_lt_len,cond_false]
theorem alaw_true (cx cy sd w h:Int) (pb po:List Int) (fl ke sw be we:Int) (b:List BrI) (wh el:Int) (l:List BdI) (m:Int):∃ N,evFn real tab ((twY fsAl spL).env real tab N 8) N Tryz.f4 AOut [.agg [.int .i64 cx,.int .i64 cy,.int .i64 sd,.int .i64 w,.int .i64 h,.ro (.int .i64) pb,.ro (.int .i64) po,.int .i64 fl,.int .i64 ke,.int .i64 sw,.int .i64 be,.int .i64 we,.ro (.recd (.cons (.int .i64) (.cons (.int .i64) (.cons (.int .i64) .nil)))) b,.int .i64 wh,.int .i64 el],.ro (.recd (.cons (.int .i64) (.cons (.int .i64) (.cons (.recd (.cons (.recd (.cons (.int .i64) (.cons (.int .i64) .nil))) (.cons (.recd (.cons (.int .i64) (.cons (.int .i64) .nil))) (.cons (.int .i64) .nil)))) (.cons .bool .nil))))) l,.int .u8 m] some=some (b1 true):=by
 cases h1:decide ((pb.length:Int) > 200)
 case true=>exact ⟨0,(alaw_text 0 0 AOut cx cy sd w h pb po fl ke sw be we b wh el l m some).trans (by rw [h1]; rfl)⟩
 cases h2:decide ((po.length:Int) > 200)
 case true=>exact ⟨0,(alaw_text 0 0 AOut cx cy sd w h pb po fl ke sw be we b wh el l m some).trans (by rw [h1,h2]; rfl)⟩
 cases h3:decide ((b.length:Int) > 66)
 case true=>exact ⟨0,(alaw_text 0 0 AOut cx cy sd w h pb po fl ke sw be we b wh el l m some).trans (by rw [h1,h2,h3]; rfl)⟩
 cases h4:decide ((l.length:Int) > 18)
 case true=>exact ⟨0,(alaw_text 0 0 AOut cx cy sd w h pb po fl ke sw be we b wh el l m some).trans (by rw [h1,h2,h3,h4]; rfl)⟩
 have:=of_decide_eq_false h4
 obtain ⟨N,e⟩:=aaT_true cx cy sd w h pb po fl ke sw be we b wh el l ((IntKind.i64.wrap m).tmod 41) (by omega) some
 exact ⟨N,(alaw_text N 0 AOut cx cy sd w h pb po fl ke sw be we b wh el l m some).trans (by rw [h1,h2,h3,h4]; exact e)⟩
def alawF:List AVal→Option AOut
 | [.agg [.int .i64 cx,.int .i64 cy,.int .i64 sd,.int .i64 w,.int .i64 h,.ro (.int .i64) pb,.ro (.int .i64) po,.int .i64 fl,.int .i64 ke,.int .i64 sw,.int .i64 be,.int .i64 we,.ro (.recd (.cons (.int .i64) (.cons (.int .i64) (.cons (.int .i64) .nil)))) b,.int .i64 wh,.int .i64 el],.ro (.recd (.cons (.int .i64) (.cons (.int .i64) (.cons (.recd (.cons (.recd (.cons (.int .i64) (.cons (.int .i64) .nil))) (.cons (.recd (.cons (.int .i64) (.cons (.int .i64) .nil))) (.cons (.int .i64) .nil)))) (.cons .bool .nil))))) l,.int .u8 m]=>some (b1 true)
 | _=>none
theorem alaw_ok:FspOk Tryz.prog 4 (toFsp alawF):=tower_Y fsAl_ok spL_ok ⟨Tryz.func4,fun _ _=>by kernel_rfl⟩ (toFsp_nat _) fun args out hSm hq=>by
 replace hq:=toFsp_some hq
 unfold alawF at hq
 split at hq
 ·rename_i cx cy sd w h pb po fl ke sw be we b wh el l m
  cases hq
  obtain ⟨N,e⟩:=alaw_true cx cy sd w h pb po fl ke sw be we b wh el l m
  exact ⟨N,8,e⟩
 ·cases hq
end Go.Proofs.YtpigibmlkgjdkaaGreat
