/- Parts of the proof, in build order. -/
import Derived.Test.YtpgfncncgjihpaaGreatM1
import Derived.Laws.Cover3
namespace Go.Proofs.YtpgfncncgjihpaaGreat
open Go.RowKit
section
variable {P:Program} {T:Tab} {o:Oper} {a:Act} {w:World} {α:Type} {r:α} {h:List ABlk} {g:Gh}
theorem live_add {K} (_s:St K h g w) {v:AVal} {x:Value} (hr:Rep h g w v x) (hl:v.livePtr h=true):∃b n,x=.pointer (some ⟨b,n,none⟩)∧∀d,
  (∀i off,v=.op i off→Rep h g w (.op i (off+d)) (.pointer (some ⟨b,n+d,none⟩))) ∧
  (∀i ix off,v=.oe i ix off→Rep h g w (.oe i ix (off+d)) (.pointer (some ⟨b,n+d,none⟩))) ∧
  (∀cs,v=.rp cs→Rep h g w (.rp (cs.drop d)) (.pointer (some ⟨b,n+d,none⟩))):=by
 unfold AVal.livePtr at hl
 split at hl
 ·rename_i i off
  split at hl
  ·rename_i wr cs hh
   have hi:=getD_some (by simp) hh
   cases hr with
   |op _ _ _ a1 a2 a3=>
    obtain⟨b,h1,h2⟩:=a3 wr cs hi
    refine⟨b,off,h2,fun d=>⟨fun i' off' e=>?_,fun i' ix off' e=>(by cases e),fun cs e=>(by cases e)⟩⟩
    cases e
    exact .op _ _ _ a1 rfl fun wr' cs' hx=>⟨b,h1,rfl⟩
  ·cases hl
 ·rename_i i ix off
  split at hl
  ·rename_i wr t e xs hh
   have hi:=getD_some (by simp) hh
   have h0:0<e.size:=of_decide_eq_true hl
   cases hr with
   |oe _ _ _ _ a1 a2 a3=>
    obtain⟨hlt,b,n,c,h1,h2⟩:=a3 wr t e xs hi h0
    refine⟨b,ix*e.size+off,h2,fun d=>⟨fun i' off' e=>(by cases e),fun i' ix' off' e'=>?_,fun cs e=>(by cases e)⟩⟩
    cases e'
    refine .oe _ _ _ _ a1 rfl fun wr' t' e'' xs' hx _=>?_
    rw[hi] at hx; cases hx
    exact⟨hlt,b,n,c,h1,by rw[Nat.add_assoc]⟩
  ·cases hl
 ·rename_i cs
  cases hr with
  |rp _ b n us a1 a2 a3=>
   refine⟨b,n,rfl,fun d=>⟨fun i' off' e=>(by cases e),fun i' ix' off' e'=>(by cases e'),fun cs' e=>?_⟩⟩
   cases e
   refine .rp _ b (n+d) (fun j=>us (d+j)) a1 (fun j c hj=>?_) (fun j c hj=>?_)
   ·rw[List.getElem?_drop] at hj
    rw[Nat.add_assoc]; exact a2 _ c hj
   ·rw[List.getElem?_drop] at hj
    exact a3 _ c hj
 ·cases hl
theorem fieldAddr_sound {K} (hT:TabOk P T) (s:St K h g w) (t:TypeId) (x:Operand) (f:Nat) (ho:o.op=.fieldAddr t x f) (u:AVal) (k:AVal→Option α)
  (hu:Rep h g w u (a.eval x)) (hk:evFieldAddr T t u f h k=some r) :
  ∃c z,k c=some r∧Rep h g w c z∧(execOp a.eval o).run P w=.ok (.value z) w:=by
 unfold evFieldAddr at hk
 split at hk
 ·rename_i fs hfs
  split at hk
  ·rename_i fd hfd
   split at hk
   ·cases hk
   ·rename_i hne
    cases hl:u.livePtr h
    ·rw[hl] at hk; cases hk
    ·rw[hl] at hk
     obtain⟨F,hF,hFl⟩:=und_recd hT hfs
     have hf:∃fl,F[f]?=some fl∧fl.offset=fd.1∧fl.type=fd.2:=by
      rw[←hFl,List.getElem?_map] at hfd
      cases hx:F.toList[f]? with
      |none=>rw[hx] at hfd; cases hfd
      |some fl=>rw[hx] at hfd; cases hfd; exact⟨fl,by simpa using hx,rfl,rfl⟩
     obtain⟨fl,h1,h2,h3⟩:=hf
     obtain⟨i,hi,hsz,_⟩:=tab_size hT hne
     obtain⟨b,n,hp,hadd⟩:=live_add s hu hl
     have hrun:(execOp a.eval o).run P w=.ok (.value (.pointer (some ⟨b,n+fd.1,none⟩))) w:=by
      simp[execOp,ho,Instr.fieldAt,run_underlying hF,h1,Instr.sureAddr,hp,fieldPlace,sizeOf,typeInfo,h3,hi,hsz,hne,h2,Addr.add_lit]
     obtain⟨p1,p2,p3⟩:=hadd fd.1
     simp only[Bool.not_true,cond_false] at hk
     split at hk
     ·exact⟨_,_,hk,p1 _ _ rfl,hrun⟩
     ·exact⟨_,_,hk,p3 _ rfl,hrun⟩
     ·exact⟨_,_,hk,p2 _ _ _ rfl,hrun⟩
     ·cases hk
  ·cases hk
 ·cases hk
theorem rep_agg {cs:List AVal} {x:Value} (r:Rep h g w (.agg cs) x):∃arr,x=.agg arr∧cs.length=arr.size∧∀(j:Nat) c u,cs[j]?=some c→arr[j]?=some u→Rep h g w c u:=by
 cases r with|agg _ arr a b=>exact⟨arr,rfl,a,b⟩
theorem part_sound (hT:TabOk P T) {t:TypeId} {cs:List AVal} {arr:Array Value} {off:Nat} {v:AVal} (hl:cs.length=arr.size) (hr:∀(j:Nat) c u,cs[j]?=some c→arr[j]?=some u→Rep h g w c u)
  (hp:packT T t (cs.drop off)=some v):∃z,(part t arr off).run P w=.ok z w∧Rep h g w v z:=by
 unfold packT at hp
 split at hp
 ·rename_i ha
  obtain⟨hrun,d,hd⟩:=isAggT_run (w:=w) hT ha
  obtain⟨i,hi,hsz,_⟩:=tab_info hT hd
  split at hp
  ·rename_i hlen
   cases hp
   rw[List.length_drop] at hlen
   refine⟨.agg (arr.extract off (off+T.size t)),by simp[part,hrun,sizeOf,typeInfo,hi,hsz],.agg _ _ (by simp; omega) fun j c u hc hu=>?_⟩
   rw[List.getElem?_take] at hc
   split at hc
   ·rename_i hj
    rw[List.getElem?_drop] at hc
    refine hr (off+j) c u hc ?_
    rw[Array.getElem?_extract] at hu
    split at hu
    ·exact hu
    ·cases hu
   ·cases hc
  ·cases hp
 ·rename_i ha
  obtain⟨hrun,d,hd⟩:=isAggT_run (w:=w) hT ha
  split at hp
  ·rename_i c cs' hcs
   cases hp
   have h0:cs[off]?=some v:=by
    have:(cs.drop off)[0]?=some v:=by rw[hcs]; rfl
    rw[List.getElem?_drop] at this; simpa using this
   have hlt:=(List.getElem?_eq_some_iff.1 h0).1
   have hx:arr[off]?=some arr[off]:=Array.getElem?_eq_getElem (by omega)
   refine⟨arr[off],?_,hr off v _ h0 hx⟩
   simp[part,hrun,hx]
  ·cases hp
 ·cases hp
def eqParts (d:Nat) (e:TypeId) (xs ys:Array Value):List Nat→Sem Bool
 | []=>pure true
 |o::r=>do
  let a ←part e xs o
  let b ←part e ys o
  let q ←Op.equalIn d e a b
  if (!q)=true then pure false else eqParts d e xs ys r
theorem run_equalIn_arrP (P:Program) (w:World) (d:Nat) (t e:TypeId) (m n:Nat) (xs ys:Array Value) (ht:P.underlying t=some (.array m e)) (hn:∀w,(sizeOf e).run P w=.ok n w) :
  (Op.equalIn (d+1) t (.agg xs) (.agg ys)).run P w=(eqParts d e xs ys ((List.range m).map (·*n))).run P w:=by
 simp only[Op.equalIn,Sem.run_bind,run_underlying ht,Result.andThen_ok,hn]
 rw[Std.Legacy.Range.forIn_eq_forIn_range']
 simp only[Std.Legacy.Range.size,Nat.sub_zero,Nat.add_sub_cancel,Nat.div_one]
 rw[←List.range_eq_range']
 generalize List.range m=fs
 induction fs generalizing w with
 |nil=>simp[eqParts]
 |cons f fs ih=>
  simp only[List.forIn_cons,List.map_cons,eqParts,Sem.run_bind,Sem.run_ite]
  generalize (part e xs (f*n)).run P w=r1
  cases r1 with
  |ok a w1=>
   simp only[Result.andThen_ok]
   generalize (part e ys (f*n)).run P w1=r2
   cases r2 with
   |ok b w2=>
    simp only[Result.andThen_ok]
    generalize (Op.equalIn d e a b).run P w2=r3
    cases r3 with
    |ok r w3=>
     cases r
     ·simp only[Result.andThen_ok,Bool.not_false,if_true,Sem.run_pure]
     ·simp only[Result.andThen_ok,Bool.not_true,Bool.false_eq_true,if_false,Sem.run_pure]
      exact ih w3
    |halt x w3=>simp[Result.andThen]
   |halt x w2=>simp[Result.andThen]
  |halt x w1=>simp[Result.andThen]
theorem eq_sound (hT:TabOk P T):∀(n d:Nat),n≤d→∀ {t:TypeId} {u v:AVal} {x y:Value} {q:Bool},Rep h g w u x→Rep h g w v y→eqT T n t u v=some q→(Op.equalIn d t x y).run P w=.ok q w
 |0,_,_,_,_,_,_,_,_,_,_,hq=>by simp[eqT] at hq
 |n+1,0,hd,_,_,_,_,_,_,_,_,_=>by omega
 |n+1,d+1,hd,t,u,v,x,y,q,hu,hv,hq=>by
  unfold eqT at hq
  split at hq
  ·rename_i k j m i l hund
   split at hq
   ·rename_i e
    subst e
    cases hq
    rw[rep_int hu,rep_int hv]
    simp[Op.equalIn,run_underlying (und_int hT hund)]
   ·cases hq
  ·rename_i m l hund
   cases hq
   rw[rep_bool hu,rep_bool hv]
   simp[Op.equalIn,run_underlying (und_bool hT hund)]
  ·rename_i m l hund
   cases hq
   cases hu; cases hv
   simp[Op.equalIn,run_underlying (und_str hT hund)]
  ·rename_i fs xs ys hund
   obtain⟨F,hF,hFl,hst,_,hnm⟩:=und_recd' hT hund
   obtain⟨ax,rfl,hlx,hrx⟩:=rep_agg hu
   obtain⟨ay,rfl,hly,hry⟩:=rep_agg hv
   have hfo:P.fieldsOf t=F:=by simp[Program.fieldsOf,hF]
   rw[run_equalIn_struct w d t ax ay (by rw[hfo]; exact hF) hst,hfo]
   subst hFl
   clear hF hfo hund
   generalize F.toList=l at hq hnm
   revert q
   induction l with
   |nil=>intro q hq; simp only[List.map_nil,eqFs] at hq; cases hq; simp[Op.eqFields]
   |cons f l ih=>
    intro q hq
    simp only[List.map_cons,eqFs] at hq
    split at hq
    ·rename_i a' b' ha hb
     split at hq
     ·rename_i p' q' hp hq'
      cases hq
      obtain⟨za,e1,e2⟩:=part_sound (P:=P) (w:=w) hT hlx hrx ha
      obtain⟨zb,e3,e4⟩:=part_sound (P:=P) (w:=w) hT hly hry hb
      have hr:=eq_sound hT n d (by omega) e2 e4 hp
      have hn:=hnm f (by simp)
      simp only[Op.eqFields,ne_eq,hn,not_false_eq_true,if_true,Sem.run_bind,e1,e3,hr,Result.andThen_ok]
      cases p'
      ·simp
      ·simpa using ih (fun f' hf'=>hnm f' (List.mem_cons_of_mem _ hf')) _ hq'
     ·cases hq
    ·cases hq
  ·rename_i m e xs ys hund
   split at hq
   ·rename_i dd hdd
    obtain⟨ax,rfl,hlx,hrx⟩:=rep_agg hu
    obtain⟨ay,rfl,hly,hry⟩:=rep_agg hv
    obtain⟨inf,hi,hsz,_⟩:=tab_info hT hdd
    rw[run_equalIn_arrP P w d t e m (T.size e) ax ay (und_arr hT hund) (fun w=>by simp[sizeOf,typeInfo,hi,hsz])]
    generalize List.range m=l at hq
    revert q
    induction l with
    |nil=>intro q hq; simp only[List.map_nil,eqFs] at hq; cases hq; simp[eqParts]
    |cons f l ih=>
     intro q hq
     simp only[List.map_cons,eqFs] at hq
     split at hq
     ·rename_i a' b' ha hb
      split at hq
      ·rename_i p' q' hp hq'
       cases hq
       obtain⟨za,e1,e2⟩:=part_sound (P:=P) (w:=w) hT hlx hrx ha
       obtain⟨zb,e3,e4⟩:=part_sound (P:=P) (w:=w) hT hly hry hb
       have hr:=eq_sound hT n d (by omega) e2 e4 hp
       simp only[List.map_cons,eqParts,Sem.run_bind,e1,e3,hr,Result.andThen_ok]
       cases p'
       ·simp
       ·simpa using ih _ hq'
      ·cases hq
     ·cases hq
   ·cases hq
  ·cases hq
theorem eq_guard (hT:TabOk P T) {n:Nat} {t:TypeId} {xs ys:List AVal} {q:Bool} (hq:eqT T n t (.agg xs) (.agg ys)=some q):P.eqGuardType P.depth t=false:=by
 cases n with
 |zero=>simp[eqT] at hq
 |succ n=>
  unfold eqT at hq
  split at hq
  ·rename_i h1 _; cases h1
  ·rename_i h1 _; cases h1
  ·rename_i h1 _; cases h1
  ·rename_i hund _ _
   obtain⟨_,_,_,_,h,_⟩:=und_recd' hT hund
   exact h
  ·rename_i hund _ _
   exact arr_guard hT hund
  ·cases hq
theorem byIdx_some {n:Int} {k:Nat→Option α}:∀(m i:Nat),byIdx real n k m i=some r→∃q:Nat,n=q∧k q=some r
 |0,i,h=>by simp[byIdx] at h
 |m+1,i,h=>by
  rw[byIdx_real,cond_eq_ite] at h
  split at h
  ·rename_i e
   exact⟨i,by simpa using e,h⟩
  ·exact byIdx_some m (i+1) h
theorem field_sound (hT:TabOk P T) (t:TypeId) (x:Operand) (f:Nat) (ho:o.op=.field t x f) (u v:AVal)
  (hu:Rep h g w u (a.eval x)) (hk:evField T t u f=some v) :
  ∃z,Rep h g w v z∧(execOp a.eval o).run P w=.ok (.value z) w:=by
 unfold evField at hk
 split at hk
 ·rename_i fs cs hfs
  split at hk
  ·rename_i fd hfd
   obtain⟨F,hF,hFl⟩:=und_recd hT hfs
   have hf:∃fl,F[f]?=some fl∧fl.offset=fd.1∧fl.type=fd.2:=by
    rw[←hFl,List.getElem?_map] at hfd
    cases hx:F.toList[f]? with
    |none=>rw[hx] at hfd; cases hfd
    |some fl=>rw[hx] at hfd; cases hfd; exact⟨fl,by simpa using hx,rfl,rfl⟩
   obtain⟨fl,h1,h2,h3⟩:=hf
   obtain⟨arr,hx,hl,hr⟩:=rep_agg hu
   obtain⟨z,h4,h5⟩:=part_sound (P:=P) hT hl hr hk
   exact⟨z,h5,by simp[execOp,ho,Instr.field,run_underlying hF,h1,hx,asAgg,h2,h3,h4]⟩
  ·cases hk
 ·cases hk
theorem intsOf_at {k:IntKind}:∀ {cs:List AVal} {l:List Int},intsOf k cs=some l→∀q,q<cs.length→cs[q]?=some (.int k (l.getD q 0))
 | [],_,_,q,hq=>by simp at hq
 |c::r,l,h,q,hq=>by
  cases c<;>simp only[intsOf] at h<;>try (cases h; done)
  split at h
  ·rename_i hj
   subst hj
   split at h
   ·rename_i l' hl'
    cases h
    cases q with
    |zero=>simp
    |succ q=>simpa using intsOf_at hl' q (by simpa using hq)
   ·cases h
  ·cases h
theorem boolsOf_at:∀ {cs:List AVal} {l:List Bool},boolsOf cs=some l→∀q,q<cs.length→cs[q]?=some (.bool (l.getD q false))
 | [],_,_,q,hq=>by simp at hq
 |c::r,l,h,q,hq=>by
  cases c<;>simp only[boolsOf] at h<;>try (cases h; done)
  split at h
  ·rename_i l' hl'
   cases h
   cases q with
   |zero=>simp
   |succ q=>simpa using boolsOf_at hl' q (by simpa using hq)
  ·cases h
theorem rosOf_at {e:Sh}:∀ {cs:List AVal} {l:List (List e.ty)},rosOf e cs=some l→∀q,q<cs.length→cs[q]?=some (.ro e (l.getD q []))
 | [],_,_,q,hq=>by simp at hq
 |c::r,l,h,q,hq=>by
  cases c<;>simp only[rosOf] at h<;>try (cases h; done)
  split at h
  ·rename_i hd
   subst hd
   split at h
   ·rename_i l' hl'
    cases h
    cases q with
    |zero=>simp
    |succ q=>simpa using rosOf_at hl' q (by simpa using hq)
   ·cases h
  ·cases h
theorem fnsOf_at:∀ {cs:List AVal} {l:List Nat},fnsOf cs=some l→∀q,q<cs.length→cs[q]?=some (.fn (l.getD q 0) [])
 | [],_,_,q,hq=>by simp at hq
 |c::r,l,h,q,hq=>by
  unfold fnsOf at h
  split at h
  ·rename_i hx; cases hx
  ·rename_i f r' hx
   cases hx
   split at h
   ·rename_i l' hl'
    cases h
    cases q with
    |zero=>simp
    |succ q=>simpa using fnsOf_at hl' q (by simpa using hq)
   ·cases h
  ·cases h
theorem oneOf_at {cs:List AVal} {v:AVal} {q:Nat} (h:oneOf (q:Int) cs=some v) (hq:q<cs.length):cs[q]?=some v:=by
 unfold oneOf at h
 split at h
 ·rename_i k a r
  split at h
  ·rename_i l hl
   cases h
   cases q with
   |zero=>simp
   |succ q=>
    have:=intsOf_at hl q (by simpa using hq)
    simpa using this
  ·cases h
 ·rename_i b r
  split at h
  ·rename_i l hl
   cases h
   cases q with
   |zero=>simp
   |succ q=>
    have:=boolsOf_at hl q (by simpa using hq)
    simpa using this
  ·cases h
 ·rename_i e a r
  split at h
  ·rename_i l hl
   cases h
   cases q with
   |zero=>simp
   |succ q=>
    have:=rosOf_at hl q (by simpa using hq)
    simpa using this
  ·cases h
 ·rename_i f r
  split at h
  ·rename_i l hl
   cases h
   cases q with
   |zero=>simp
   |succ q=>
    have:=fnsOf_at hl q (by simpa using hq)
    simpa using this
  ·cases h
 ·cases h
theorem elemAt_at {cs:List AVal} {z m q:Nat} (hz:cs.length=m*z) (hq:q<m):∀(j:Nat) (vs:List AVal),j≤z→elemAt (q:Int) cs z m j=some vs→vs=(cs.drop (q*z+(z-j))).take j
 |0,vs,_,h=>by cases h; simp
 |j+1,vs,hj,h=>by
  simp only[elemAt] at h
  split at h
  ·rename_i v vs' hv hvs
   cases h
   have ih:=elemAt_at hz hq j vs' (by omega) hvs
   have h1:=oneOf_at hv (by simpa using hq)
   have hlt:q*z+(z-(j+1))<cs.length:=by
    rw[hz]
    have:(q+1)*z≤m*z:=Nat.mul_le_mul_right z (by omega)
    rw[Nat.add_mul] at this
    omega
   rw[List.getElem?_map,List.getElem?_range hq] at h1
   simp only[Option.map_some,Option.some.injEq] at h1
   rw[List.getD_eq_getElem?_getD,List.getElem?_eq_getElem hlt,Option.getD_some] at h1
   rw[List.drop_eq_getElem_cons hlt,List.take_succ_cons,h1,ih]
   congr 3
   omega
  ·cases h
theorem index_sound (hT:TabOk P T) (t:TypeId) (x ix:Operand) (ho:o.op=.index t x ix) (u iv:AVal) (k:AVal→Option α)
  (hu:Rep h g w u (a.eval x)) (hiv:Rep h g w iv (a.eval ix)) (hk:evIndexV real T t u iv k=some r) :
  ∃c z,k c=some r∧Rep h g w c z∧(execOp a.eval o).run P w=.ok (.value z) w:=by
 unfold evIndexV at hk
 split at hk
 ·rename_i j n m et cs het
  split at hk
  ·rename_i hc
   split at hk
   ·rename_i vs hvs
    split at hk
    ·rename_i v hv
     simp only[real] at hk
     split at hk
     ·rename_i hb
      obtain⟨hb0,hb1⟩:=hb
      obtain⟨q,rfl⟩:=Int.eq_ofNat_of_zero_le hb0
      have hq:q<m:=by omega
      have hn:=rep_int hiv
      have hund:=und_arr hT het
      obtain⟨arr,hx,hl,hr⟩:=rep_agg hu
      have e:=elemAt_at hc.2 hq (T.size et) vs (Nat.le_refl _) hvs
      rw[Nat.sub_self,Nat.add_zero] at e
      have hv':packT T et (cs.drop (q*T.size et))=some v:=by
       rw[e] at hv
       unfold packT at hv ⊢
       split at hv
       ·split at hv
        ·rename_i hlen
         rw[List.length_take] at hlen
         rw[if_pos (by omega)]
         rw[List.take_take,Nat.min_self] at hv
         exact hv
        ·cases hv
       ·have:0<T.size et:=by omega
        obtain⟨zz,hzz⟩:∃zz,T.size et=zz+1:=⟨T.size et-1,by omega⟩
        rw[hzz] at hv ⊢
        cases hd:cs.drop (q*(zz+1)) with
        |nil=>rw[hd] at hv; cases hv
        |cons c r'=>rw[hd] at hv; exact hv
       ·cases hv
      obtain⟨z,h4,h5⟩:=part_sound (P:=P) (w:=w) hT hl hr hv'
      obtain⟨ii,hii,hs,_⟩:=tab_size hT (t:=et) hc.1
      exact⟨v,z,hk,h5,by simp[execOp,ho,Instr.index,run_underlying hund,hn,asIntOf,hx,hq,sizeOf,typeInfo,hii,hs,h4]⟩
     ·cases hk
    ·cases hk
   ·cases hk
  ·cases hk
 ·cases hk
theorem rep_ro {e:Sh} {xs:List e.ty} {x:Value} (r:Rep h g w (.ro e xs) x):∃p c,x=.slice p xs.length c∧xs.length≤c∧c≤maxLen∧(p=none→c=0) ∧
  (0<xs.length→∃b n,p=some ⟨b,n,none⟩∧g.M b∧∃us:Nat→Nat→Value,(∀(m:Nat) x (j:Nat) cc,xs[m]?=some x→(e.cells x)[j]?=some cc→w.cell? ⟨b,n+m*e.size+j,none⟩=some (us m j)) ∧
   (∀(m:Nat) x (j:Nat) cc,xs[m]?=some x→(e.cells x)[j]?=some cc→Rep h g w cc (us m j))):=by
 cases r with
 |ro0 _ p c hc hc'=>exact⟨p,c,rfl,Nat.zero_le _,hc,hc',fun h=>by simp at h⟩
 |ro1 _ _ b n c us a1 a2 a3 a4 a5 a6=>exact⟨_,c,rfl,a2,a3,fun e=>(by cases e),fun _=>⟨b,n,rfl,a4,us,a5,a6⟩⟩
theorem getD_get {α:Type} {l:List α} {n:Nat} {d:α} (hn:n<l.length):l[n]?=some (l.getD n d):=by
 rw[List.getD_eq_getElem?_getD,List.getElem?_eq_getElem hn]; rfl
theorem rep_own {i:Nat} {x:Value} {wr t} {e:Sh} {xs:List e.ty} (r:Rep h g w (.own i) x) (hi:h[i]?=some (.row wr t e xs)):x=g.ρ i:=by
 cases r with|own _ _ a1 a2 a3=>exact a3 wr t e xs hi
theorem row_slice {K} (s:St K h g w) {i:Nat} {wr t} {e:Sh} {xs:List e.ty} (hi:h[i]?=some (.row wr t e xs)) (h0:0<e.size):∃p c,g.ρ i=.slice p xs.length c∧(0<xs.length→∃b,p=some ⟨b,0,none⟩):=by
 obtain⟨vs,h1,h2⟩:=(rowOk_iff h0).1 (s.blk i _ hi)
 rcases h1.2 with ⟨h3,h4⟩|⟨n,cap,cur,h3,h5,h6,h7,h8,h9,h10⟩
 ·exact⟨none,0,by rw[h3,h4],fun h=>by omega⟩
 ·exact⟨_,cap,h3,fun _=>⟨n,rfl⟩⟩
theorem indexAddr_sound {K} (hT:TabOk P T) (s:St K h g w) (t:TypeId) (x ix:Operand) (ho:o.op=.indexAddr t x ix) (u iv:AVal) (k:AVal→Option α)
  (hu:Rep h g w u (a.eval x)) (hiv:Rep h g w iv (a.eval ix)) (hk:evIndexAddr real T t u iv h k=some r) :
  ∃c z,k c=some r∧Rep h g w c z∧(execOp a.eval o).run P w=.ok (.value z) w:=by
 unfold evIndexAddr at hk
 split at hk
 ·rename_i j n
  have hn:=rep_int hiv
  split at hk
  ·rename_i et het
   have hund:=und_sl hT het
   split at hk
   ·rename_i e xs
    split at hk
    ·rename_i hsz
     simp only[real] at hk
     split at hk
     ·rename_i hb
      obtain⟨hb0,hb1⟩:=hb
      obtain⟨m,rfl⟩:=Int.eq_ofNat_of_zero_le hb0
      have hm:m<xs.length:=by omega
      obtain⟨p,c,hx,_,_,_,hbl⟩:=rep_ro hu
      obtain⟨b,q,rfl,hM,us,hc1,hc2⟩:=hbl (by omega)
      have hrun:(execOp a.eval o).run P w=.ok (.value (.pointer (some ⟨b,q+m*e.size,none⟩))) w:=by
       obtain⟨i,hi,hs,_⟩:=tab_size hT (t:=et) (by omega)
       simp[execOp,ho,Instr.indexAt,hn,asIntOf,run_underlying hund,hx,hm,sizeOf,typeInfo,hi,hs,hsz.1,Addr.add_lit]
      refine⟨_,_,hk,?_,hrun⟩
      have hg:=getD_get (d:=e.dflt) hm
      exact .rp _ b _ (fun j=>us m j) hM (fun j c hj=>hc1 m _ j c hg hj) (fun j c hj=>hc2 m _ j c hg hj)
     ·cases hk
    ·cases hk
   ·rename_i i
    split at hk
    ·rename_i wr t' e xs hh
     have hi:=getD_some (by simp) hh
     split at hk
     ·rename_i hsz
      obtain⟨hsz,h0⟩:=hsz
      simp only[real] at hk
      split at hk
      ·rename_i hb
       obtain⟨hb0,hb1⟩:=hb
       obtain⟨m,rfl⟩:=Int.eq_ofNat_of_zero_le hb0
       have hm:m<xs.length:=by omega
       have hx:=rep_own hu hi
       obtain⟨p,c,hρ,hbl⟩:=row_slice s hi h0
       obtain⟨b,rfl⟩:=hbl (by omega)
       obtain⟨ii,hii,hs,_⟩:=tab_size hT (t:=et) (by omega)
       refine⟨_,_,hk,?_,(by simp[execOp,ho,Instr.indexAt,hn,asIntOf,run_underlying hund,hx,hρ,hm,sizeOf,typeInfo,hii,hs,hsz,Addr.add_lit]:(execOp a.eval o).run P w=.ok (.value (.pointer (some ⟨b,m*e.size,none⟩))) w)⟩
       refine .oe _ _ _ _ (.of hi (by simp)) rfl fun wr2 t2 e2 xs2 hx2 _=>?_
       rw[hi] at hx2; cases hx2
       exact⟨by simpa using hm,b,_,c,hρ,by simp⟩
      ·cases hk
     ·cases hk
    ·cases hk
   ·cases hk
  ·rename_i m et het
   have hund:=und_arr hT het
   simp only[real] at hk
   split at hk
   ·rename_i hb
    obtain⟨hb0,hb1⟩:=hb
    obtain⟨q,rfl⟩:=Int.eq_ofNat_of_zero_le hb0
    cases hz:T.size et==0
    ·rw[hz] at hk
     cases hl:u.livePtr h
     ·rw[hl] at hk; cases hk
     ·rw[hl] at hk
      simp only[Bool.not_true,cond_false] at hk
      obtain⟨b,nn,hp,hadd⟩:=live_add s hu hl
      obtain⟨i,hi,hs,_⟩:=tab_size hT (t:=et) (by simpa using hz)
      have hlt:q<m:=by omega
      have hrun:(execOp a.eval o).run P w=.ok (.value (.pointer (some ⟨b,nn+q*T.size et,none⟩))) w:=by
       simp[execOp,ho,Instr.indexAt,hn,asIntOf,run_underlying hund,hp,Instr.sureAddr,hlt,sizeOf,typeInfo,hi,hs,Addr.add_lit]
      obtain⟨p1,p2,p3⟩:=hadd (q*T.size et)
      have same:∀q':Nat,(q:Int)=q'→q'=q:=fun q' e=>by omega
      split at hk
      ·obtain⟨q',e,hk⟩:=byIdx_some _ _ hk
       rw[same q' e] at hk
       exact⟨_,_,hk,p1 _ _ rfl,hrun⟩
      ·obtain⟨q',e,hk⟩:=byIdx_some _ _ hk
       rw[same q' e] at hk
       exact⟨_,_,hk,p3 _ rfl,hrun⟩
      ·obtain⟨q',e,hk⟩:=byIdx_some _ _ hk
       rw[same q' e] at hk
       exact⟨_,_,hk,p2 _ _ _ rfl,hrun⟩
      ·cases hk
    ·rw[hz] at hk; cases hk
   ·cases hk
  ·cases hk
 ·cases hk
theorem bin_sound (hT:TabOk P T) (op:BinOp) (t yt:TypeId) (x y:Operand) (ho:o.op=.binOp op t x y yt) (u v:AVal) (k:AVal→Option α)
  (hu:Rep h g w u (a.eval x)) (hv:Rep h g w v (a.eval y)) (hk:evBin real T op t u v k=some r) :
  ∃c z,k c=some r∧Rep h g w c z∧(execOp a.eval o).run P w=.ok (.value z) w:=by
 unfold evBin at hk
 split at hk
 ·rename_i j m i n
  have hx:=rep_int hu
  have hy:=rep_int hv
  cases op
  case shl=>
   simp only[real] at hk
   split at hk
   ·cases hk
   ·rename_i hneg
    exact⟨_,_,hk,.int _ _,by simp[execOp,ho,hx,hy,eqGuard,binOp,Op.shift,hneg]⟩
  case shr=>
   simp only[real] at hk
   split at hk
   ·cases hk
   ·rename_i hneg
    exact⟨_,_,hk,.int _ _,by simp[execOp,ho,hx,hy,eqGuard,binOp,Op.shift,hneg]⟩
  case quo=>
   simp only[real] at hk
   split at hk
   ·rename_i hji
    subst hji
    split at hk
    ·cases hk
    ·rename_i hne
     exact⟨_,_,hk,.int _ _,by simp[execOp,ho,hx,hy,eqGuard,binOp,Op.intDiv,hne]⟩
   ·cases hk
  case rem=>
   simp only[real] at hk
   split at hk
   ·rename_i hji
    subst hji
    split at hk
    ·cases hk
    ·rename_i hne
     exact⟨_,_,hk,.int _ _,by simp[execOp,ho,hx,hy,eqGuard,binOp,Op.intDiv,hne]⟩
   ·cases hk
  all_goals
   simp only at hk
   split at hk
   ·rename_i hji
    subst hji
    first
     |cases hk
     |exact⟨_,_,hk,.int _ _,by simp[execOp,ho,hx,hy,eqGuard,binOp,Op.intArith,Op.intBits]⟩
     |exact⟨_,_,hk,.bool _,by simp[execOp,ho,hx,hy,eqGuard,binOp,Op.intCmp]⟩
   ·cases hk
 ·rename_i m n
  have hx:=rep_bool hu
  have hy:=rep_bool hv
  split at hk
  ·rename_i hb
   have hub:=und_bool hT hb
   split at hk
   ·exact⟨_,_,hk,.bool _,by simp[execOp,ho,hx,hy,eqGuard,binOp,Op.equal,Op.maxDepth,run_equalIn_bool' w 9999 t m n hub]⟩
   ·exact⟨_,_,hk,.bool _,by simp[execOp,ho,hx,hy,eqGuard,binOp,Op.equal,Op.maxDepth,run_equalIn_bool' w 9999 t m n hub]⟩
   ·cases hk
  ·cases hk
 ·rename_i m n
  have hx:a.eval x=.string m:=by cases hx:a.eval x<;>rw[hx] at hu<;>cases hu; rfl
  have hy:a.eval y=.string n:=by cases hx:a.eval y<;>rw[hx] at hv<;>cases hv; rfl
  split at hk
  ·rename_i hb
   split at hk
   ·exact⟨_,_,hk,.bool _,by simp[execOp,ho,hx,hy,eqGuard,binOp,Op.stringOp,beq_toListBytes]⟩
   ·exact⟨_,_,hk,.bool _,by simp[execOp,ho,hx,hy,eqGuard,binOp,Op.stringOp,beq_toListBytes]⟩
   ·cases hk
  ·cases hk
 ·rename_i m n
  split at hk
  ·split at hk
   ·rename_i q hq
    have:=eq_sound (w:=w) hT 20 10000 (by omega) hu hv hq
    obtain⟨ax,hx,_⟩:=rep_agg hu
    obtain⟨ay,hy,_⟩:=rep_agg hv
    rw[hx,hy] at this
    have hgd:=eq_guard hT hq
    exact⟨_,_,hk,.bool _,by simp[execOp,ho,hx,hy,eqGuard,binOp,Op.equal,Op.maxDepth,this,hgd]⟩
   ·cases hk
  ·split at hk
   ·rename_i q hq
    have:=eq_sound (w:=w) hT 20 10000 (by omega) hu hv hq
    obtain⟨ax,hx,_⟩:=rep_agg hu
    obtain⟨ay,hy,_⟩:=rep_agg hv
    rw[hx,hy] at this
    have hgd:=eq_guard hT hq
    exact⟨_,_,hk,.bool _,by simp[execOp,ho,hx,hy,eqGuard,binOp,Op.equal,Op.maxDepth,this,hgd]⟩
   ·cases hk
  ·cases hk
 ·rename_i e xs
  have hy:a.eval y=.slice none 0 0:=by generalize a.eval y=q at hv; cases hv; rfl
  split at hk
  ·rename_i et het
   have hund:=und_sl hT het
   obtain⟨p,c,hx,_,_,_,hbl⟩:=rep_ro hu
   have hneq:=run_neq_slice_nil (P:=P) w t et p xs.length c hund
   have heq:=run_equal_slice_nil (P:=P) w t et p xs.length c hund
   split at hk
   ·simp only[real] at hk
    split at hk
    ·rename_i h0
     obtain⟨b,n,rfl,_⟩:=hbl h0
     exact⟨_,_,hk,.bool _,by simp[execOp,ho,hx,hy,eqGuard,binOp,heq]⟩
    ·cases hk
   ·simp only[real] at hk
    split at hk
    ·rename_i h0
     obtain⟨b,n,rfl,_⟩:=hbl h0
     exact⟨_,_,hk,.bool _,by simp[execOp,ho,hx,hy,eqGuard,binOp,heq]⟩
    ·cases hk
   ·cases hk
  ·cases hk
 ·have hx:a.eval x=.slice none 0 0:=by generalize a.eval x=q at hu; cases hu; rfl
  have hy:a.eval y=.slice none 0 0:=by generalize a.eval y=q at hv; cases hv; rfl
  split at hk
  ·rename_i et het
   have hund:=und_sl hT het
   have heq:=run_equal_slice_nil (P:=P) w t et none 0 0 hund
   split at hk
   ·exact⟨_,_,hk,.bool _,by simp[execOp,ho,hx,hy,eqGuard,binOp,heq]⟩
   ·exact⟨_,_,hk,.bool _,by simp[execOp,ho,hx,hy,eqGuard,binOp,heq]⟩
   ·cases hk
  ·cases hk
 ·cases hk
end
section
variable {P:Program} {T:Tab} {o:Oper} {a:Act} {w:World} {α:Type} {r:α} {h:List ABlk} {g:Gh}
theorem len_sound {K} (s:St K h g w) (b:Builtin) (hb:b=.len) (args:Array Operand) (ts:Array TypeId) (x:Operand) (t:TypeId) (ha:args.toList=[x]) (hts:ts.toList=[t])
  (ho:o.op=.call { callee:=.builtin b,args,argTypes:=ts }) (u:AVal) (n:Int) (hu:Rep h g w u (a.eval x)) (hl:evLen h u=some n)
  (ht:(∃e,P.underlying t=some (.slice e)∧∀s,u≠.str s)∨(P.underlying t=some .string∧∃s,u=.str s)) :
  (execOp a.eval o).run P w=.ok (.value (.int .i64 n)) w:=by
 subst hb
 obtain⟨args⟩:=args
 obtain⟨ts⟩:=ts
 simp only at ha hts
 subst ha; subst hts
 unfold evLen at hl
 rcases ht with ⟨e,ht,hne⟩|⟨ht,s',rfl⟩
 ·have key:∀p m c,a.eval x=.slice p m c→n=m→(execOp a.eval o).run P w=.ok (.value (.int .i64 n)) w:=by
   intro p m c hx hn
   simp[execOp,ho,resolve,invoke,builtin,Builtin.len_,run_underlying ht,hx,goInt,hn]
  split at hl
  ·rename_i e xs
   cases hl
   obtain⟨p,c,hx,_⟩:=rep_ro hu
   exact key p _ c hx rfl
  ·cases hl
   cases hu':a.eval x<;>rw[hu'] at hu<;>cases hu
   exact key _ _ _ hu' rfl
  ·exact absurd rfl (hne _)
  ·split at hl
   ·rename_i i wr t' e xs hh
    split at hl
    case isFalse=>cases hl
    rename_i h0
    cases hl
    have hi:=getD_some (by simp) hh
    obtain⟨p,c,hρ,_⟩:=row_slice s hi h0
    have hx:=rep_own hu hi
    rw[hρ] at hx
    exact key p _ c hx rfl
   ·cases hl
  ·cases hl
 ·simp only at hl
  cases hl
  cases hu':a.eval x<;>rw[hu'] at hu<;>cases hu
  simp[execOp,ho,resolve,invoke,builtin,Builtin.len_,run_underlying ht,hu',goInt]
theorem min_fold (j:IntKind):∀(l:List AVal) (vs:List Value) (x y:Int),minI l x=some y→l.length=vs.length→(∀(i:Nat) c u,l[i]?=some c→vs[i]?=some u→Rep h g w c u) →
  (vs.foldlM Builtin.min2 (Value.int j x)).run P w=.ok (.int j y) w
 | [],[],x,y,hm,_,_=>by simp only[minI] at hm; cases hm; rfl
 |c::l,u::vs,x,y,hm,hl,hr=>by
  cases c with
  |int i z=>
   simp only[minI] at hm
   have hu:=rep_int (hr 0 _ _ rfl rfl)
   subst hu
   have ih:=min_fold j l vs _ y hm (by simpa using hl) (fun i c u a b=>hr (i+1) c u (by simpa using a) (by simpa using b))
   simp[Builtin.min2,ih]
  |_=>simp[minI] at hm
 | [],_::_,_,_,_,hl,_=>by simp at hl
 |_::_,[],_,_,_,hl,_=>by simp at hl
theorem max_fold (j:IntKind):∀(l:List AVal) (vs:List Value) (x y:Int),maxI l x=some y→l.length=vs.length→(∀(i:Nat) c u,l[i]?=some c→vs[i]?=some u→Rep h g w c u) →
  (vs.foldlM Builtin.max2 (Value.int j x)).run P w=.ok (.int j y) w
 | [],[],x,y,hm,_,_=>by simp only[maxI] at hm; cases hm; rfl
 |c::l,u::vs,x,y,hm,hl,hr=>by
  cases c with
  |int i z=>
   simp only[maxI] at hm
   have hu:=rep_int (hr 0 _ _ rfl rfl)
   subst hu
   have ih:=max_fold j l vs _ y hm (by simpa using hl) (fun i c u a b=>hr (i+1) c u (by simpa using a) (by simpa using b))
   simp[Builtin.max2,ih]
  |_=>simp[maxI] at hm
 | [],_::_,_,_,_,hl,_=>by simp at hl
 |_::_,[],_,_,_,hl,_=>by simp at hl
theorem ops_rep {s:AS} (ht:TRep h g w s.tmps a.tmps) (l:List Operand):∀(i:Nat) c u,(l.map s.ev)[i]?=some c→(l.map a.eval)[i]?=some u→Rep h g w c u:=by
 intro i c u hc hu
 rw[List.getElem?_map] at hc hu
 cases hx:l[i]? with
 |none=>rw[hx] at hc; cases hc
 |some x=>
  rw[hx] at hc hu
  cases hc; cases hu
  exact ht.ev x
theorem min_sound {s:AS} (ht:TRep h g w s.tmps a.tmps) (b:Builtin) (hb:b=.min) (args:Array Operand) (ts:Array TypeId) (ho:o.op=.call { callee:=.builtin b,args,argTypes:=ts })
  (j:IntKind) (x n:Int) (l:List AVal) (ha:args.toList.map s.ev=.int j x::l) (hm:minI l x=some n):(execOp a.eval o).run P w=.ok (.value (.int j n)) w:=by
 subst hb
 obtain⟨args⟩:=args
 simp only at ha
 have hr:=ops_rep ht args
 cases args with
 |nil=>simp at ha
 |cons y r=>
  simp only[List.map_cons,List.cons.injEq] at ha
  have hy:a.eval y=.int j x:=rep_int (by have:=ht.ev y; rw[ha.1] at this; exact this)
  have hf:=min_fold (P:=P) (w:=w) (h:=h) (g:=g) j l (r.map a.eval) x n hm (by rw[←ha.2]; simp) (fun i c u hc hu=>by
   rw[←ha.2] at hc
   exact ops_rep ht r i c u hc hu)
  simp[execOp,ho,resolve,invoke,builtin,Builtin.min_,hy,hf]
theorem max_sound {s:AS} (ht:TRep h g w s.tmps a.tmps) (b:Builtin) (hb:b=.max) (args:Array Operand) (ts:Array TypeId) (ho:o.op=.call { callee:=.builtin b,args,argTypes:=ts })
  (j:IntKind) (x n:Int) (l:List AVal) (ha:args.toList.map s.ev=.int j x::l) (hm:maxI l x=some n):(execOp a.eval o).run P w=.ok (.value (.int j n)) w:=by
 subst hb
 obtain⟨args⟩:=args
 simp only at ha
 cases args with
 |nil=>simp at ha
 |cons y r=>
  simp only[List.map_cons,List.cons.injEq] at ha
  have hy:a.eval y=.int j x:=rep_int (by have:=ht.ev y; rw[ha.1] at this; exact this)
  have hf:=max_fold (P:=P) (w:=w) (h:=h) (g:=g) j l (r.map a.eval) x n hm (by rw[←ha.2]; simp) (fun i c u hc hu=>by
   rw[←ha.2] at hc
   exact ops_rep ht r i c u hc hu)
  simp[execOp,ho,resolve,invoke,builtin,Builtin.max_,hy,hf]
theorem cut_rep {e:Sh} {xs:List e.ty} {p:Option Addr} {c l n:Nat} (hx:Rep h g w (.ro e xs) (.slice p xs.length c)) (hl:l≤n) (hn:n≤xs.length) :
  Rep h g w (.ro e ((xs.take n).drop l)) (.slice (if c=l then p else p.map (·.add (l*e.size))) (n-l) (c-l)):=by
 have hlen:((xs.take n).drop l).length=n-l:=by simp; omega
 obtain⟨p',c',hv,h1,h2,h3,h4⟩:=rep_ro hx
 cases hv
 rcases Nat.eq_zero_or_pos (n-l) with hz|hz
 ·have e0:(xs.take n).drop l=[]:=List.eq_nil_of_length_eq_zero (by rw[hlen,hz])
  rw[e0,hz]
  refine .ro0 e _ _ (by omega) fun hp=>?_
  split at hp
  ·omega
  ·have:=h3 (by cases p<;>simp at hp ⊢)
   omega
 ·obtain⟨b,q,rfl,hM,us,hc1,hc2⟩:=h4 (by omega)
  rw[if_neg (by omega),←hlen]
  simp only[Option.map_some,Addr.add_lit]
  have hget:∀(m:Nat) x,((xs.take n).drop l)[m]?=some x→xs[l+m]?=some x:=fun m x hm=>by
   rw[List.getElem?_drop,List.getElem?_take] at hm
   split at hm
   ·exact hm
   ·cases hm
  refine .ro1 e _ b _ _ (fun m j=>us (l+m) j) (by omega) (by omega) (by omega) hM (fun m x j cc hm hj=>?_) (fun m x j cc hm hj=>hc2 _ _ _ _ (hget m x hm) hj)
  rw[←hc1 _ _ _ _ (hget m x hm) hj]
  congr 2
  rw[Nat.add_mul]; omega
end
section
variable {P:Program} {T:Tab} {o:Oper} {a:Act} {w:World} {α:Type} {r:α}
def Good (K:Nat→Prop) (P:Program) (o:Oper) (a:Act) (st:AS) (g:Gh) (w:World) (k:AVal→AS→Option α) (r:α):Prop:=
 ∃c st' g' w' z,k c st'=some r∧st'.tmps=st.tmps∧St K st'.heap g' w'∧Le K st.heap g w st'.heap g' w'∧Rep st'.heap g' w' c z∧(execOp a.eval o).run P w=.ok (.value z) w'
theorem slice_run (hT:TabOk P T) {t et:TypeId} (hund:T.und t=some (.sl et)) {sz:Nat} (hs:T.size et=sz) (h0:0<sz) (p:Option Addr) (len cap:Nat) (hlc:len≤cap) (lo hi:Option Value) (l n:Nat)
  (hlo:(lo=none∧l=0)∨∃j,lo=some (.int j l)) (hhi:(hi=none∧n=len)∨∃j,hi=some (.int j n)) (hl:l≤n) (hn:n≤len) :
  (Instr.sliceAt t (.slice p len cap) lo hi none).run P w=.ok (.slice (if cap=l then p else p.map (·.add (l*sz))) (n-l) (cap-l)) w:=by
 have h1:=und_sl hT hund
 obtain⟨i,hi',hsz,_⟩:=tab_size hT (t:=et) (by omega)
 have hnc:(n:Int)≤(cap:Int):=by omega
 have hln:(l:Int)≤(n:Int):=by omega
 have hll:(l:Int)≤(len:Int):=by omega
 have hl0:(0:Int)≤(l:Int):=by omega
 have hn0:(0:Int)≤(n:Int):=by omega
 rcases hlo with ⟨rfl,rfl⟩|⟨j,rfl⟩<;>rcases hhi with ⟨rfl,rfl⟩|⟨j',rfl⟩ <;>
  simp[Instr.sliceAt,run_underlying h1,Instr.slice,Instr.sliceBounds,run_sliceBound,hnc,hln,hll,sizeOf,typeInfo,hi',hsz,hs]
theorem slice_sound {K} (hT:TabOk P T) (st:AS) {g:Gh} (s:St K st.heap g w) (htr:TRep st.heap g w st.tmps a.tmps) (dr:Bool) (t:TypeId) (x:Operand) (lo hi:Option Operand) (ho:o.op=.slice t x lo hi none)
  (k:AVal→AS→Option α) (hk:evSlice real T dr t (st.ev x) (lo.map st.ev) (hi.map st.ev) st.heap (fun v h=>k v { st with heap:=h })=some r):Good K P o a st g w k r:=by
 have hu:=htr.ev x
 unfold evSlice at hk
 split at hk
 ·rename_i et hund
  -- a list that stays
  have key:∀(e:Sh) (xs:List e.ty) (h':List ABlk) (g':Gh),T.size et=e.size→0<e.size→Rep h' g' w (.ro e xs) (a.eval x)→St K h' g' w→Le K st.heap g w h' g' w→∀l n,l≤n→n≤xs.length →
    ((lo=none∧l=0)∨∃y j,lo=some y∧st.ev y=.int j (l:Nat))→((hi=none∧n=xs.length)∨∃y j,hi=some y∧st.ev y=.int j (n:Nat))→k (.ro e ((xs.take n).drop l)) { st with heap:=h' }=some r→Good K P o a st g w k r:=by
   intro e xs h' g' hsz h0 hr hst hle l n hl hn hlo hhi hkk
   obtain⟨p,c,hx,hlc,_⟩:=rep_ro hr
   rw[hx] at hr
   refine⟨_,_,g',w,_,hkk,rfl,hst,hle,cut_rep hr hl hn,?_⟩
   have hrun:=slice_run (w:=w) hT hund hsz h0 p xs.length c hlc (lo.map a.eval) (hi.map a.eval) l n
    (by rcases hlo with ⟨rfl,rfl⟩|⟨y,j,rfl,hy⟩
        ·exact .inl ⟨rfl,rfl⟩
        ·exact .inr ⟨j,by have:=htr.ev y; rw[hy] at this; simp[rep_int this]⟩)
    (by rcases hhi with ⟨rfl,rfl⟩|⟨y,j,rfl,hy⟩
        ·exact .inl ⟨rfl,rfl⟩
        ·exact .inr ⟨j,by have:=htr.ev y; rw[hy] at this; simp[rep_int this]⟩) hl hn
   simp[execOp,ho,hx,hrun]
  have key2:∀(e:Sh) (xs:List e.ty) (h':List ABlk) (g':Gh),(0<e.size→Rep h' g' w (.ro e xs) (a.eval x))→St K h' g' w→Le K st.heap g w h' g' w →
    evCut real T et (lo.map st.ev) (hi.map st.ev) e xs h' (fun v h=>k v { st with heap:=h })=some r→Good K P o a st g w k r:=by
   intro e xs h' g' hr hst hle hk
   unfold evCut at hk
   split at hk
   ·rename_i hc
    have hr:=hr hc.2
    split at hk
    ·rename_i h1 h2
     have e1:lo=none:=by cases lo<;>simp at h1 ⊢
     have e2:hi=none:=by cases hi<;>simp at h2 ⊢
     exact key e xs h' g' hc.1 hc.2 hr hst hle 0 xs.length (Nat.zero_le _) (Nat.le_refl _) (.inl ⟨e1,rfl⟩) (.inl ⟨e2,rfl⟩) (by simpa using hk)
    ·rename_i j l h1 h2
     have e2:hi=none:=by cases hi<;>simp at h2 ⊢
     simp only[real] at hk
     split at hk
     ·rename_i hb
      obtain⟨m,rfl⟩:=Int.eq_ofNat_of_zero_le hb.1
      obtain⟨y,hy,hy2⟩:=Option.map_eq_some_iff.1 h1
      exact key e xs h' g' hc.1 hc.2 hr hst hle m xs.length (by omega) (Nat.le_refl _) (.inr ⟨y,j,hy,hy2⟩) (.inl ⟨e2,rfl⟩) (by simpa using hk)
     ·cases hk
    ·rename_i j n h1 h2
     have e1:lo=none:=by cases lo<;>simp at h1 ⊢
     simp only[real] at hk
     split at hk
     ·rename_i hb
      obtain⟨m,rfl⟩:=Int.eq_ofNat_of_zero_le hb.1
      obtain⟨y,hy,hy2⟩:=Option.map_eq_some_iff.1 h2
      exact key e xs h' g' hc.1 hc.2 hr hst hle 0 m (Nat.zero_le _) (by omega) (.inl ⟨e1,rfl⟩) (.inr ⟨y,j,hy,hy2⟩) (by simpa using hk)
     ·cases hk
    ·rename_i j l j' n h1 h2
     simp only[real] at hk
     split at hk
     ·rename_i hb
      obtain⟨m,rfl⟩:=Int.eq_ofNat_of_zero_le hb.1
      obtain⟨m',rfl⟩:=Int.eq_ofNat_of_zero_le (show 0≤n by omega)
      obtain⟨y,hy,hy2⟩:=Option.map_eq_some_iff.1 h1
      obtain⟨y',hy',hy2'⟩:=Option.map_eq_some_iff.1 h2
      exact key e xs h' g' hc.1 hc.2 hr hst hle m m' (by omega) (by omega) (.inr ⟨y,j,hy,hy2⟩) (.inr ⟨y',j',hy',hy2'⟩) (by simpa using hk)
     ·cases hk
    ·cases hk
   ·cases hk
  split at hk
  ·rename_i e xs hx
   rw[hx] at hu
   exact key2 e xs st.heap g (fun _=>hu) s .refl hk
  ·rename_i i hx
   rw[hx] at hu
   split at hk
   ·rename_i t' e xs hh
    cases dr
    ·have hi:=getD_some (by simp) hh
     obtain⟨l,s'⟩:=kill_all [i] s (h':=st.heap.set i .dead) (by simp only[killAll]; rw[hh])
     refine key2 e xs (st.heap.set i .dead) _ (fun h0=>?_) s' l hk
     rw[rep_own hu hi]
     exact row_ro (s.blk i _ hi) h0 (fun b hb=>.inl hb) (fun b hb=>.inr ⟨i,by simp,hb⟩)
    ·cases hk
   ·cases hk
  ·cases hk
 ·cases hk
theorem foldl_over (off:Nat):∀(vs:List Value) (n:Nat) (cells:Array Value),
  ((vs.zipIdx n).foldl (fun cs (x:Value × Nat)=>cs.setIfInBounds (off+x.2) x.1) cells).toList=List.overAt cells.toList (off+n) vs
 | [],n,cells=>by simp[overAt_nil]
 |v::vs,n,cells=>by
  simp only[List.zipIdx_cons,List.foldl_cons]
  rw[foldl_over off vs (n+1)]
  simp only[Array.toList_setIfInBounds]
  have:∀(l:List Value) (m:Nat),List.overAt (l.set m v) (m+1) vs=List.overAt l m (v::vs):=by
   intro l
   induction l with
   |nil=>intro m; cases vs<;>rfl
   |cons x l ih=>
    intro m
    cases m with
    |zero=>
     cases vs with
     |nil=>simp[overAt_nil,List.overAt]
     |cons y vs=>rfl
    |succ m=>
     have:=ih m
     cases vs with
     |nil=>simp only[List.set_cons_succ,overAt_nil] at this ⊢; simp only[List.overAt]; rw[←this]
     |cons y vs=>simp only[List.set_cons_succ,List.overAt] at this ⊢; rw[this]
  exact this _ _
theorem fill_rep {h:List ABlk} {g:Gh} (place:Nat→Option (Nat × Nat)):∀(parts:List (Nat × AVal)) (vps:List (Nat × Value)) (cs cs':List AVal) (arr:Array Value),
  fillC place cs parts=some cs'→parts.length=vps.length→(∀(i:Nat) p q,parts[i]?=some p→vps[i]?=some q→p.1=q.1∧Rep h g w p.2 q.2) →
  cs.length=arr.size→(∀(j:Nat) c u,cs[j]?=some c→arr[j]?=some u→Rep h g w c u) →
  ∃arr',Instr.fill place arr vps=some arr'∧cs'.length=arr'.size∧∀(j:Nat) c u,cs'[j]?=some c→arr'[j]?=some u→Rep h g w c u
 | [],[],cs,cs',arr,hf,_,_,hl,hr=>by
   simp only[fillC] at hf; cases hf
   exact⟨arr,rfl,hl,hr⟩
 |p::parts,q::vps,cs,cs',arr,hf,hlen,hp,hl,hr=>by
  obtain⟨i,v⟩:=p
  obtain⟨i',x⟩:=q
  obtain⟨h1,h2⟩:=hp 0 _ _ rfl rfl
  simp only at h1 h2
  subst h1
  simp only[fillC] at hf
  split at hf
  ·cases hf
  ·rename_i off size hpl
   split at hf
   ·rename_i hc
    obtain⟨h3',h4',_⟩:=cells_rep h2 hc.1
    have h3:v.cells.length=x.cells.size:=h3'.symm
    have h4:∀(j:Nat) c u,v.cells[j]?=some c→x.cells[j]?=some u→Rep h g w c u:=fun j c u a b=>(h4' j c u a b).2
    replace hc:=hc.2
    have hov:=foldl_over off x.cells.toList 0 arr
    have ih:=fill_rep place parts vps (List.overAt cs off v.cells) cs' (x.cells.toList.zipIdx.foldl (fun cs (y:Value × Nat)=>cs.setIfInBounds (off+y.2) y.1) arr) hf (by simpa using hlen)
     (fun n p q a b=>hp (n+1) p q (by simpa using a) (by simpa using b))
     (by
      have e:(x.cells.toList.zipIdx.foldl (fun cs (y:Value × Nat)=>cs.setIfInBounds (off+y.2) y.1) arr).size=arr.size:=by
       rw[←Array.length_toList,hov,overAt_length,Array.length_toList]
      rw[overAt_length,e,hl])
     (fun j c u hcj hu=>by
      have hu':(List.overAt arr.toList off x.cells.toList)[j]?=some u:=by
       have:=hov; simp only[Nat.add_zero] at this
       rw[←this]; simpa using hu
      rw[overAt_get _ _ _ hc.2] at hcj
      rw[overAt_get _ _ _ (by simp; omega)] at hu'
      have hx3:x.cells.toList.length=v.cells.length:=by simp[h3]
      by_cases e:off≤j∧j<off+v.cells.length
      ·rw[if_pos e] at hcj
       rw[if_pos (by omega)] at hu'
       exact h4 _ c u hcj (by simpa using hu')
      ·rw[if_neg e] at hcj
       rw[if_neg (by omega)] at hu'
       exact hr j c u hcj (by simpa using hu'))
    obtain⟨arr',e1,e2,e3⟩:=ih
    refine⟨arr',?_,e2,e3⟩
    simp only[Instr.fill,hpl]
    rw[if_neg (by simp; omega)]
    have:(x.cells.zipIdx.foldl (fun cs (y:Value × Nat)=>cs.setIfInBounds (off+y.2) y.1) arr)=(x.cells.toList.zipIdx.foldl (fun cs (y:Value × Nat)=>cs.setIfInBounds (off+y.2) y.1) arr):=by
     rw[←Array.foldl_toList,Array.toList_zipIdx]
    rw[←e1]
    exact congrArg (fun z=>Instr.fill place z vps) this
   ·cases hf
 | [],_::_,_,_,_,_,hl,_,_,_=>by simp at hl
 |_::_,[],_,_,_,_,hl,_,_,_=>by simp at hl
end
section
variable {P:Program} {T:Tab} {o:Oper} {a:Act} {w:World} {α:Type} {r:α}
theorem run_places (hT:TabOk P T):∀(l:List Field),(∀f∈l,(T.at f.type).isSome=true) →
  (l.mapM (fun f=>do pure (f.offset,←sizeOf f.type):Field→Sem (Nat × Nat))).run P w=.ok (l.map fun f=>(f.offset,T.size f.type)) w
 | [],_=>rfl
 |f::l,h=>by
  have ih:=run_places hT l fun f' hf'=>h f' (List.mem_cons_of_mem _ hf')
  have h0:=h f (by simp)
  cases hx:T.at f.type with
  |none=>rw[hx] at h0; cases h0
  |some e=>
   obtain⟨i,hi,hs,_⟩:=(hT.ty _ e hx).info
   have hs':i.size=T.size f.type:=by rw[hs]; simp[Tab.size,hx]
   have hf:(do pure (f.offset,←sizeOf f.type):Sem (Nat × Nat)).run P w=.ok (f.offset,T.size f.type) w:=by simp[sizeOf,typeInfo,hi,hs']
   rw[List.mapM_cons]
   simp only[Sem.run_bind] at hf ih ⊢
   rw[hf]
   simp only[Result.andThen_ok]
   rw[ih]
   rfl
theorem zero_rep (hT:TabOk P T) {h:List ABlk} {g:Gh} {t:TypeId} {z:AVal} (hz:T.zero t=some z):∃v,(zeroValue t).run P w=.ok v w∧Rep h g w z v:=by
 obtain⟨i,v,h1,_,_,h3,h4⟩:=tab_zero hT hz
 refine⟨v,by simp[zeroValue,typeInfo,h1,h3],?_⟩
 rw[←h4]; exact rep_value v
theorem parts_rep {st:AS} {g:Gh} (htr:TRep st.heap g w st.tmps a.tmps) (parts:Array (Nat × Operand)) :
  (parts.toList.map fun p=>(p.1,st.ev p.2)).length=(parts.map fun (i,x)=>(i,a.eval x)).toList.length ∧
  ∀(i:Nat) p q,(parts.toList.map fun p=>(p.1,st.ev p.2))[i]?=some p→(parts.map fun (i,x)=>(i,a.eval x)).toList[i]?=some q→p.1=q.1∧Rep st.heap g w p.2 q.2:=by
 refine⟨by simp,fun i p q hp hq=>?_⟩
 rw[List.getElem?_map] at hp
 rw[Array.toList_map,List.getElem?_map] at hq
 cases hx:parts.toList[i]? with
 |none=>rw[hx] at hp; cases hp
 |some y=>rw[hx] at hp hq; cases hp; cases hq; exact⟨rfl,htr.ev y.2⟩
theorem build_sound (hT:TabOk P T) (st:AS) {g:Gh} (htr:TRep st.heap g w st.tmps a.tmps) (t:TypeId) (parts:Array (Nat × Operand)) (ho:o.op=.build t parts) {z:AVal} {pl:Nat→Option (Nat × Nat)} {cs:List AVal}
  (hz:T.zero t=some z) (hpl:placesOf T t=some pl) (hza:z.cells.all AVal.scalar=true) (hf:fillC pl z.cells (parts.toList.map fun p=>(p.1,st.ev p.2))=some cs) :
  ∃v,Rep st.heap g w (.agg cs) v∧(execOp a.eval o).run P w=.ok (.value v) w:=by
 obtain⟨zv,hzr,hzz⟩:=zero_rep (w:=w) (h:=st.heap) (g:=g) hT hz
 obtain⟨c1,c2,_⟩:=cells_rep hzz hza
 obtain⟨p1,p2⟩:=parts_rep htr parts
 unfold placesOf at hpl
 split at hpl
 ·rename_i fs hfs
  split at hpl
  ·rename_i hall
   cases hpl
   obtain⟨F,hF,hFl⟩:=und_recd hT hfs
   obtain⟨arr',e1,e2,e3⟩:=fill_rep (h:=st.heap) (g:=g) (w:=w) _ _ _ _ _ zv.cells hf p1 p2 c1.symm (fun j c u a b=>(c2 j c u a b).2)
   refine⟨.agg arr',.agg _ _ e2 e3,?_⟩
   obtain⟨l⟩:=F
   simp only at hFl
   have hpr:=run_places (w:=w) hT l (fun f hf=>by
    have:=List.all_eq_true.1 hall (f.offset,f.type) (by rw[←hFl]; exact List.mem_map.2 ⟨f,hf,rfl⟩)
    exact this)
   have hplace:placeAt T fs=fun (i:Nat)=>((l.map fun f=>(f.offset,T.size f.type)).toArray[i]?:Option (Nat × Nat)):=by
    funext i
    unfold placeAt
    rw[←hFl]
    simp only[List.getElem?_map,List.getElem?_toArray]
    cases l[i]?<;>rfl
   rw[hplace] at e1
   simp only[execOp,ho,Sem.run_bind,Instr.build,hzr,Result.andThen_ok,run_underlying hF,List.mapM_toArray,Sem.run_map,hpr,e1,Sem.run_pure]
  ·cases hpl
 ·rename_i n e hfs
  split at hpl
  ·rename_i hall
   cases hpl
   have hund:=und_arr hT hfs
   cases hx:T.at e with
   |none=>rw[hx] at hall; cases hall
   |some te=>
    obtain⟨i,hi,hs,_⟩:=(hT.ty _ te hx).info
    have hs':i.size=T.size e:=by rw[hs]; simp[Tab.size,hx]
    obtain⟨arr',e1,e2,e3⟩:=fill_rep (h:=st.heap) (g:=g) (w:=w) _ _ _ _ _ zv.cells hf p1 p2 c1.symm (fun j c u a b=>(c2 j c u a b).2)
    refine⟨.agg arr',.agg _ _ e2 e3,?_⟩
    simp only[execOp,ho,Sem.run_bind,Instr.build,hzr,Result.andThen_ok,run_underlying hund,sizeOf,typeInfo,run_program,hi,hs',Sem.run_pure,e1]
  ·cases hpl
 ·cases hpl
theorem alloc_good {K} (st:AS) {g:Gh} (s:St K st.heap g w) (t:TypeId) (v:AVal) (x:Value) (hr:Rep st.heap g w v x) (hs:v.cells.all AVal.scalar=true) (k:AVal→AS→Option α)
  (hrun:(execOp a.eval o).run P w=.ok (.value (.pointer (some ⟨w.heap.size,0,none⟩))) (w.alloc (.cells x.cells t)))
  (hk:k (.op st.heap.length 0) (st.new (.box true v.cells))=some r):Good K P o a st g w k r:=by
 obtain⟨c1,c2,_⟩:=cells_rep hr hs
 obtain⟨l,s',hp⟩:=new_box s v.cells x.cells t c1 c2
 exact⟨_,_,_,_,_,hk,rfl,s',l,hp,hrun⟩
theorem new_row {K h g w} (s:St K h g w) (t:TypeId) (e:Sh) (h0:0<e.size) (xs:List e.ty) (cur:Array Value) (cap:Nat) (hcap:xs.length≤cap) (hm:cap≤maxLen) (hcs:cur.size=cap*e.size)
  (hr:∀(n:Nat) x (j:Nat) c u,xs[n]?=some x→(e.cells x)[j]?=some c→cur[n*e.size+j]?=some u→Rep h g w c u) :
  Le K h g w (h++[.row true t e xs]) (g.at h.length (.slice (some ⟨w.heap.size,0,none⟩) xs.length cap)) (w.alloc (.cells cur t)) ∧
  St K (h++[.row true t e xs]) (g.at h.length (.slice (some ⟨w.heap.size,0,none⟩) xs.length cap)) (w.alloc (.cells cur t)) ∧
  Rep (h++[.row true t e xs]) (g.at h.length (.slice (some ⟨w.heap.size,0,none⟩) xs.length cap)) (w.alloc (.cells cur t)) (.own h.length) (.slice (some ⟨w.heap.size,0,none⟩) xs.length cap):=by
 have hb:Below w.heap.size w (w.alloc (.cells cur t)):=(Below.refl _ _).alloc (Nat.le_refl _) _
 have l:Le K h g w (h++[.row true t e xs]) (g.at h.length (.slice (some ⟨w.heap.size,0,none⟩) xs.length cap)) (w.alloc (.cells cur t)):=le_grow s _ _ hb
 have hlen:xs.length*e.size≤cur.size:=by rw[hcs]; exact Nat.mul_le_mul_right _ hcap
 refine⟨l,s.grow _ _ l (fun i n ai hn=>Below.heap_alloc w _ n (s.sep i n ai hn).2.2) ?_ ?_,.own _ _ (Here.of (List.getElem?_concat_length ..) (by simp)) rfl fun wr t' e' xs' hx=>(g.at_same _ _).symm⟩
 ·refine (rowOk_iff h0).2 ⟨cur.toList.take (xs.length*e.size),?_,fun n x j c hx hc=>?_⟩
  ·rw[g.at_same]
   refine⟨by simp; omega,.inr ⟨w.heap.size,cap,cur,rfl,Nat.zero_le _,heap_alloc_new w _,hcap,hm,hcs,rfl⟩⟩
  ·have hn:=(List.getElem?_eq_some_iff.1 hx).1
   have hj:j<e.size:=by have:=(List.getElem?_eq_some_iff.1 hc).1; rwa [Sh.cells_size] at this
   have hlt:n*e.size+j<xs.length*e.size:=by
    have:(n+1)*e.size≤xs.length*e.size:=Nat.mul_le_mul_right _ hn
    rw[Nat.add_mul] at this; omega
   have hu:cur[n*e.size+j]?=some cur[n*e.size+j]:=Array.getElem?_eq_getElem (by omega)
   refine⟨_,?_,(hr n x j c _ hx hc hu).mono l⟩
   rw[List.getElem?_take,if_pos hlt]
   simp[hu]
 ·intro n hn
  simp only[blockOf,Option.some.injEq] at hn
  subst hn
  exact⟨⟨fun hk=>Nat.lt_irrefl _ (s.klow _ hk),fun hm=>Nat.lt_irrefl _ (s.low _ hm),by simp⟩,fun i ai hi=>Nat.lt_irrefl _ (s.sep i _ ai hi).2.2⟩
theorem nil_row {K h g w} (s:St K h g w) (t:TypeId) (e:Sh) (h0:0<e.size) :
  Le K h g w (h++[.row true t e []]) (g.at h.length (.slice none 0 0)) w∧St K (h++[.row true t e []]) (g.at h.length (.slice none 0 0)) w ∧
  Rep (h++[.row true t e []]) (g.at h.length (.slice none 0 0)) w (.own h.length) (.slice none 0 0):=by
 have l:Le K h g w (h++[.row true t e []]) (g.at h.length (.slice none 0 0)) w:=le_grow s _ _ (Below.refl _ _)
 refine⟨l,s.grow _ _ l (fun _ _ _ _=>rfl) ((rowOk_iff h0).2 ⟨[],?_,fun n x j c hx _=>by simp at hx⟩) (fun n hn=>by simp[blockOf] at hn),.own _ _ (Here.of (List.getElem?_concat_length ..) (by simp)) rfl fun wr t' e' xs' hx=>(g.at_same _ _).symm⟩
 rw[g.at_same]
 exact World.ownsRow_nil w 0 t e.size
theorem nil_rows {K w} (T:Tab):∀(cs:List AVal) (ls:List (Option TypeId)) (h:List ABlk) (g:Gh),St K h g w →
  ∃g',Le K h g w (nilRows T cs ls h).2 g' w∧St K (nilRows T cs ls h).2 g' w∧(nilRows T cs ls h).1.length=cs.length ∧
   ∀(j:Nat) c c' x,cs[j]?=some c→(nilRows T cs ls h).1[j]?=some c'→Rep h g w c x→Rep (nilRows T cs ls h).2 g' w c' x∧(c.scalar=true→c'.scalar=true)
 | [],[],h,g,s=>⟨g,.refl,s,rfl,fun j c c' x hc=>by simp at hc⟩
 | [],_::_,h,g,s=>⟨g,.refl,s,rfl,fun j c c' x hc=>by simp at hc⟩
 |c0::cs,[],h,g,s=>by
  have e:nilRows T (c0::cs) [] h=(c0::cs,h):=by cases c0<;>rfl
  rw[e]
  exact⟨g,.refl,s,rfl,fun j c c' x hc hc' r=>by rw[hc] at hc'; cases hc'; exact⟨r,id⟩⟩
 |c0::cs,l0::ls,h,g,s=>by
  have plain:nilRows T (c0::cs) (l0::ls) h=(c0::(nilRows T cs ls h).1,(nilRows T cs ls h).2)→∃g',Le K h g w (nilRows T (c0::cs) (l0::ls) h).2 g' w∧St K (nilRows T (c0::cs) (l0::ls) h).2 g' w∧(nilRows T (c0::cs) (l0::ls) h).1.length=(c0::cs).length ∧
   ∀(j:Nat) c c' x,(c0::cs)[j]?=some c→(nilRows T (c0::cs) (l0::ls) h).1[j]?=some c'→Rep h g w c x→Rep (nilRows T (c0::cs) (l0::ls) h).2 g' w c' x∧(c.scalar=true→c'.scalar=true):=fun e=>by
   rw[e]
   obtain⟨g',l,s',hl,hr⟩:=nil_rows T cs ls h g s
   refine⟨g',l,s',by simp[hl],fun j c c' x hc hc' r=>?_⟩
   cases j with
   |zero=>
    simp only[List.getElem?_cons_zero,Option.some.injEq] at hc hc'
    subst hc; subst hc'
    exact⟨r.mono l,id⟩
   |succ j=>exact hr j c c' x (by simpa using hc) (by simpa using hc') r
  by_cases hn:c0=.nils
  ·subst hn
   cases l0 with
   |none=>exact plain rfl
   |some et=>
    cases hsh:T.sh et with
    |none=>exact plain (by simp[nilRows,hsh])
    |some e=>
     by_cases hc:T.size et=e.size∧0<e.size
     ·have e1:nilRows T (.nils::cs) (some et::ls) h=(.own h.length::(nilRows T cs ls (h++[.row true et e []])).1,(nilRows T cs ls (h++[.row true et e []])).2):=by simp only[nilRows,hsh]; rw[if_pos hc]
      rw[e1]
      obtain⟨l0,s0,p0⟩:=nil_row s et e hc.2
      obtain⟨g',l,s',hl,hr⟩:=nil_rows T cs ls _ _ s0
      refine⟨g',l0.trans l,s',by simp[hl],fun j c c' x hc hc' r=>?_⟩
      cases j with
      |zero=>
       simp only[List.getElem?_cons_zero,Option.some.injEq] at hc hc'
       subst hc; subst hc'
       cases r
       exact⟨p0.mono l,fun _=>rfl⟩
      |succ j=>exact hr j c c' x (by simpa using hc) (by simpa using hc') (r.mono l0)
     ·exact plain (by simp only[nilRows,hsh]; rw[if_neg hc])
  ·exact plain (by cases c0<;>first|exact absurd rfl hn|rfl)
theorem alloc_sound {K} (hT:TabOk P T) (st:AS) {g:Gh} (s:St K st.heap g w) (dr:Bool) (t:TypeId) (ho:o.op=.alloc t) {z:AVal} (hz:T.zero t=some z) (hs:z.cells.all AVal.scalar=true) (k:AVal→AS→Option α)
  (hk:(bif dr then k (.op st.heap.length 0) (st.new (.box true z.cells)) else k (.op (nilRows T z.cells (leavesT T 8 t) st.heap).2.length 0) { st with heap:=(nilRows T z.cells (leavesT T 8 t) st.heap).2++[.box true (nilRows T z.cells (leavesT T 8 t) st.heap).1] })=some r):Good K P o a st g w k r:=by
 obtain⟨zv,hzr,hzz⟩:=zero_rep (w:=w) (h:=st.heap) (g:=g) hT hz
 have hrun:(execOp a.eval o).run P w=.ok (.value (.pointer (some ⟨w.heap.size,0,none⟩))) (w.alloc (.cells zv.cells t)):=by simp[execOp,ho,Instr.alloc,hzr,newVar,newRow,World.alloc_eq]
 cases dr
 ·obtain⟨c1,c2,_⟩:=cells_rep hzz hs
  obtain⟨g1,l1,s1,hl,hr⟩:=nil_rows T z.cells (leavesT T 8 t) st.heap g s
  obtain⟨l,s',hp⟩:=new_box s1 (nilRows T z.cells (leavesT T 8 t) st.heap).1 zv.cells t (by rw[hl,c1]) (fun j c' x hc' hx=>by
   have hj:j<z.cells.length:=by have:=(List.getElem?_eq_some_iff.1 hc').1; omega
   obtain⟨d1,d2⟩:=c2 j _ x (List.getElem?_eq_getElem hj) hx
   obtain⟨d3,d4⟩:=hr j _ c' x (List.getElem?_eq_getElem hj) hc' d2
   exact⟨d4 d1,d3⟩)
  exact⟨_,_,_,_,_,hk,rfl,s',l1.trans l,hp,hrun⟩
 ·exact alloc_good st s t z zv hzz hs k hrun hk
theorem box_sound {K} (st:AS) {g:Gh} (s:St K st.heap g w) (htr:TRep st.heap g w st.tmps a.tmps) (d:Bool) (t:TypeId) (x:Operand) (ho:o.op=.box t x) (hs:(st.ev x).cells.all AVal.scalar=true) (k:AVal→AS→Option α)
  (hk:(bif d then k (.op st.heap.length 0) (st.new (.box true (st.ev x).cells)) else k (.op (nilRows T (st.ev x).cells (leavesT T 8 t) st.heap).2.length 0) { st with heap:=(nilRows T (st.ev x).cells (leavesT T 8 t) st.heap).2++[.box true (nilRows T (st.ev x).cells (leavesT T 8 t) st.heap).1] })=some r):Good K P o a st g w k r:=by
 have hrun:(execOp a.eval o).run P w=.ok (.value (.pointer (some ⟨w.heap.size,0,none⟩))) (w.alloc (.cells (a.eval x).cells t)):=by simp[execOp,ho,Instr.box,newVar,newRow,World.alloc_eq]
 cases d
 ·obtain⟨c1,c2,_⟩:=cells_rep (htr.ev x) hs
  obtain⟨g1,l1,s1,hl,hr⟩:=nil_rows T (st.ev x).cells (leavesT T 8 t) st.heap g s
  obtain⟨l,s',hp⟩:=new_box s1 (nilRows T (st.ev x).cells (leavesT T 8 t) st.heap).1 (a.eval x).cells t (by rw[hl,c1]) (fun j c' y hc' hy=>by
   have hj:j<(st.ev x).cells.length:=by have:=(List.getElem?_eq_some_iff.1 hc').1; omega
   obtain⟨d1,d2⟩:=c2 j _ y (List.getElem?_eq_getElem hj) hy
   obtain⟨d3,d4⟩:=hr j _ c' y (List.getElem?_eq_getElem hj) hc' d2
   exact⟨d4 d1,d3⟩)
  exact⟨_,_,_,_,_,hk,rfl,s',l1.trans l,hp,hrun⟩
 ·exact alloc_good st s t _ _ (htr.ev x) hs k hrun hk
end
def Sim (u c:AVal):Prop:=u=c∨(u=.nils∧∃e,c=.ro e [])
theorem Sim.rep {h g w} {u c:AVal} {x:Value} (s:Sim u c) (r:Rep h g w u x):Rep h g w c x:=by
 rcases s with rfl|⟨rfl,e,rfl⟩
 ·exact r
 ·cases r; exact .ro0 e none 0 (Nat.zero_le _) fun _=>rfl
def Sims (l m:List AVal):Prop:=l.length=m.length∧∀(j:Nat) u c,l[j]?=some u→m[j]?=some c→Sim u c
theorem Sims.one {u c:AVal} (h:Sim u c):Sims [u] [c]:=
 ⟨rfl,fun j a b ha hb=>by
  rcases j with _|j
  ·cases ha; cases hb; exact h
  ·simp at ha⟩
theorem Sims.append {a b c d:List AVal} (h:Sims a c) (k:Sims b d):Sims (a++b) (c++d):=by
 refine⟨by simp[h.1,k.1],fun j u v hu hv=>?_⟩
 rcases Nat.lt_or_ge j a.length with hj|hj
 ·rw[List.getElem?_append_left hj] at hu
  rw[List.getElem?_append_left (by rw[←h.1]; exact hj)] at hv
  exact h.2 j u v hu hv
 ·rw[List.getElem?_append_right hj] at hu
  rw[List.getElem?_append_right (by rw[←h.1]; exact hj),←h.1] at hv
  exact k.2 _ u v hu hv
theorem takeInt_spec {k:IntKind} {cs:List AVal} {x:Int} {r:List AVal} (h:takeInt k cs=some (x,r)):∃l,cs=l++r∧Sims l [.int k x]:=by
 unfold takeInt at h
 split at h
 ·split at h
  ·rename_i e
   subst e; cases h
   exact⟨[_],rfl,.one (.inl rfl)⟩
  ·cases h
 ·cases h
theorem takeBool_spec {cs:List AVal} {x:Bool} {r:List AVal} (h:takeBool cs=some (x,r)):∃l,cs=l++r∧Sims l [.bool x]:=by
 unfold takeBool at h
 split at h
 ·cases h
  exact⟨[_],rfl,.one (.inl rfl)⟩
 ·cases h
theorem takeStr_spec {cs:List AVal} {x:ByteArray} {r:List AVal} (h:takeStr cs=some (x,r)):∃l,cs=l++r∧Sims l [.str x]:=by
 unfold takeStr at h
 split at h
 ·cases h
  exact⟨[_],rfl,.one (.inl rfl)⟩
 ·cases h
theorem takeRo_spec {e:Sh} {cs:List AVal} {x:List e.ty} {r:List AVal} (h:takeRo e cs=some (x,r)):∃l,cs=l++r∧Sims l [.ro e x]:=by
 unfold takeRo at h
 split at h
 ·split at h
  ·rename_i hd
   subst hd; cases h
   exact⟨[_],rfl,.one (.inl rfl)⟩
  ·cases h
 ·cases h
  exact⟨[_],rfl,.one (.inr ⟨rfl,e,rfl⟩)⟩
 ·cases h
mutual
theorem Sh.of_spec:(s:Sh)→(cs:List AVal)→(x:s.ty)→(r:List AVal)→s.of cs=some (x,r)→∃l,cs=l++r∧Sims l (s.cells x)
 |.int k,cs,x,r,h=>takeInt_spec h
 |.bool,cs,x,r,h=>takeBool_spec h
 |.str,cs,x,r,h=>takeStr_spec h
 |.recd fs,cs,x,r,h=>by
  simp only[Sh.of] at h
  exact Shs.of_spec fs cs x r h
 |.sl _,_,_,_,h=>takeRo_spec h
 |.mp _ _,_,_,_,h=>by cases h
theorem Shs.of_spec:(fs:Shs)→(cs:List AVal)→(x:fs.ty)→(r:List AVal)→fs.of cs=some (x,r)→∃l,cs=l++r∧Sims l (fs.cells x)
 |.nil,cs,x,r,h=>by
  simp only[Shs.of] at h
  cases h
  exact⟨[],rfl,⟨rfl,fun j u c hu=>by simp at hu⟩⟩
 |.cons s q,cs,x,r,h=>by
  simp only[Shs.of] at h
  split at h
  ·cases h
  ·rename_i y r1 h1
   split at h
   ·cases h
   ·rename_i z r2 h2
    cases h
    obtain⟨l1,e1,m1⟩:=Sh.of_spec s cs y r1 h1
    obtain⟨l2,e2,m2⟩:=Shs.of_spec q r1 z r h2
    exact⟨l1++l2,by rw[e1,e2,List.append_assoc],m1.append m2⟩
end
theorem Sh.all_spec {s:Sh} {cs:List AVal} {x:s.ty} (h:s.all cs=some x):Sims cs (s.cells x):=by
 unfold Sh.all at h
 split at h
 ·rename_i y e
  cases h
  obtain⟨l,e1,m⟩:=Sh.of_spec s cs x [] e
  rw[e1,List.append_nil]; exact m
 ·cases h
theorem Sh.many_spec (s:Sh):∀(n:Nat) (cs:List AVal) (xs:List s.ty),s.many n cs=some xs→xs.length=n∧cs.length=n*s.size ∧
  ∀(m:Nat) x (j:Nat) c,xs[m]?=some x→(s.cells x)[j]?=some c→∃u,cs[m*s.size+j]?=some u∧Sim u c
 |0,cs,xs,h=>by
  cases cs with
  |nil=>simp only[Sh.many] at h; cases h; simp
  |cons=>simp[Sh.many] at h
 |n+1,cs,xs,h=>by
  simp only[Sh.many] at h
  split at h
  ·cases h
  ·rename_i x r h1
   split at h
   ·cases h
   ·rename_i l h2
    cases h
    obtain⟨i1,i2,i3⟩:=Sh.many_spec s n r l h2
    obtain⟨q,e1,m⟩:=Sh.of_spec s cs x r h1
    have hq:q.length=s.size:=by rw[m.1,Sh.cells_size]
    refine⟨by simp[i1],by rw[e1,List.length_append,hq,i2,Nat.add_mul]; omega,fun k y j c hy hc=>?_⟩
    rcases k with _|k
    ·simp only[List.getElem?_cons_zero,Option.some.injEq] at hy
     subst hy
     have hj:j<q.length:=by rw[m.1]; exact (List.getElem?_eq_some_iff.1 hc).1
     refine⟨q[j],?_,m.2 j _ c (List.getElem?_eq_getElem hj) hc⟩
     rw[e1,Nat.zero_mul,Nat.zero_add,List.getElem?_append_left hj,List.getElem?_eq_getElem hj]
    ·simp only[List.getElem?_cons_succ] at hy
     obtain⟨u,hu,hs⟩:=i3 k y j c hy hc
     refine⟨u,?_,hs⟩
     rw[e1,List.getElem?_append_right (by rw[hq,Nat.add_mul]; omega),hq,←hu]
     congr 1
     rw[Nat.add_mul]; omega
section
variable {P:Program} {T:Tab} {o:Oper} {a:Act} {w:World} {α:Type} {r:α}
theorem val_cells (s:Sh) (x:s.ty):(∃fs,∃h:s=.recd fs,s.val x=.agg (s.cells x))∨(s.cells x=[s.val x]∧(s.val x).pure0=true∧∀fs,s≠.recd fs)∨(s.val x=.any∧s.cells x=[]):=by
 cases s with
 |mp k v=>exact .inr (.inr ⟨rfl,rfl⟩)
 |recd fs=>exact .inl ⟨fs,rfl,rfl⟩
 |int k=>exact .inr (.inl ⟨rfl,rfl,fun fs e=>by cases e⟩)
 |bool=>exact .inr (.inl ⟨rfl,rfl,fun fs e=>by cases e⟩)
 |str=>exact .inr (.inl ⟨rfl,rfl,fun fs e=>by cases e⟩)
 |sl e=>exact .inr (.inl ⟨rfl,rfl,fun fs e=>by cases e⟩)
theorem sim_val {h g w} {u:AVal} {x:Value} (r:Rep h g w u x) {s:Sh} {y:s.ty} (hok:okAgg u s=true) (hs:Sims u.cells (s.cells y)):Rep h g w (s.val y) x:=by
 rcases val_cells s y with ⟨fs,e,hv⟩|⟨hc,hp,hne⟩|⟨hv,_⟩
 case inr.inr=>rw[hv]; exact .any _
 ·rw[hv]
  cases u with
  |agg us=>
   obtain⟨arr,rfl,hl,hr⟩:=rep_agg r
   refine .agg _ _ (by rw[←hs.1]; exact hl) fun j c z hc hz=>?_
   have hj:j<us.length:=by have:=(Array.getElem?_eq_some_iff.1 hz).1; omega
   exact (hs.2 j _ c (List.getElem?_eq_getElem hj) hc).rep (hr j _ z (List.getElem?_eq_getElem hj) hz)
  |_=>subst e; simp[okAgg] at hok
 ·have hu:u.cells=[u]:=by
   cases u with
   |agg us=>
    cases s with
    |recd fs=>exact absurd rfl (hne fs)
    |_=>simp[okAgg] at hok
   |_=>rfl
  rw[hu,hc] at hs
  exact (hs.2 0 _ _ rfl rfl).rep r
theorem flat_get {α:Type} (l:List α) (hl:0<l.length):∀(n j:Nat),((List.replicate n l).flatten)[j]?=if j<n*l.length then l[j % l.length]? else none
 |0,j=>by simp
 |n+1,j=>by
  rw[List.replicate_succ,List.flatten_cons]
  rcases Nat.lt_or_ge j l.length with hj|hj
  ·rw[List.getElem?_append_left hj,if_pos (by rw[Nat.add_mul]; omega),Nat.mod_eq_of_lt hj]
  ·rw[List.getElem?_append_right hj,flat_get l hl n]
   rw[Nat.mod_eq_sub_mod hj]
   congr 1
   rw[Nat.add_mul]
   simp only[eq_iff_iff]
   omega
theorem buildSlice_sound {K} (hT:TabOk P T) (st:AS) {g:Gh} (s:St K st.heap g w) (htr:TRep st.heap g w st.tmps a.tmps) (t et:TypeId) (len:Nat) (parts:Array (Nat × Operand)) (ho:o.op=.buildSlice t len parts)
  (hund:T.und t=some (.sl et)) (e:Sh) (z:AVal) (hz:T.zero et=some z) (hc:T.size et=e.size∧0<e.size∧z.cells.length=e.size∧len*T.size et≤16777216) {cs us:List AVal} {h':List ABlk} {xs:List e.ty}
  (hza:z.cells.all AVal.scalar=true) (hf:fillC (fun i=>some (i*T.size et,T.size et)) ((List.replicate len z.cells).flatten) (parts.toList.map fun p=>(p.1,st.ev p.2))=some cs)
  (hcs:cs.all AVal.scalar=true) (hp:peekL (peek0 st.heap) cs=some us) (hk:killAll st.heap (dedup (cs.flatMap AVal.named0))=some h') (hm:e.many len us=some xs)
  (k:AVal→AS→Option α) (hkk:k (.own h'.length) { st with heap:=h'++[.row true et e xs] }=some r):Good K P o a st g w k r:=by
 obtain⟨h1,h0,h2,h3⟩:=hc
 obtain⟨zv,hzr,hzz⟩:=zero_rep (w:=w) (h:=st.heap) (g:=g) hT hz
 obtain⟨c1,c2,_⟩:=cells_rep hzz hza
 obtain⟨p1,p2⟩:=parts_rep htr parts
 obtain⟨i,hi,hs,_⟩:=tab_size hT (t:=et) (by omega)
 have hund':=und_sl hT hund
 have hzs:zv.cells.size=e.size:=by rw[c1,h2]
 have hbase:∀(j:Nat) c u,((List.replicate len z.cells).flatten)[j]?=some c→((Array.range (len*T.size et)).map (fun n=>zv.cells[n % zv.cells.size]!))[j]?=some u→Rep st.heap g w c u:=fun j c u hc hu=>by
  rw[flat_get _ (by omega)] at hc
  split at hc
  ·rename_i hj
   rw[h2] at hj hc
   have hlt:j % e.size<zv.cells.size:=by rw[hzs]; exact Nat.mod_lt _ h0
   refine (c2 _ c u hc ?_).2
   rw[Array.getElem?_map,Array.getElem?_range] at hu
   rw[if_pos (by rw[h1]; exact hj)] at hu
   simp only[Option.map_some,Option.some.injEq] at hu
   rw[←hu,hzs,getElem!_pos zv.cells _ hlt,Array.getElem?_eq_getElem hlt]
  ·cases hc
 obtain⟨arr',e1,e2,e3⟩:=fill_rep (h:=st.heap) (g:=g) (w:=w) _ _ _ _ _ ((Array.range (len*T.size et)).map (fun n=>zv.cells[n % zv.cells.size]!)) hf p1 p2 (by simp[h2,h1]) hbase
 obtain⟨l,s'⟩:=kill_all _ s hk
 obtain⟨n1,n2,n3⟩:=Sh.many_spec e len us xs hm
 obtain⟨q1,q2⟩:=peekL_get hp
 have hcur:arr'.size=len*e.size:=by rw[←e2,q1,n2]
 have hrep:∀(n:Nat) x (j:Nat) c u,xs[n]?=some x→(e.cells x)[j]?=some c→arr'[n*e.size+j]?=some u→Rep h' (g.plus (dedup (cs.flatMap AVal.named0))) w c u:=fun n x j c u hx hc hu=>by
  obtain⟨v,hv,hsim⟩:=n3 n x j c hx hc
  have hlt:n*e.size+j<cs.length:=by rw[q1]; exact (List.getElem?_eq_some_iff.1 hv).1
  have hcg:=List.getElem?_eq_getElem hlt
  have hpk:=q2 _ _ v hcg hv
  refine hsim.rep (peek0_rep (h':=h') (g':=g.plus (dedup (cs.flatMap AVal.named0))) s (e3 _ _ u hcg hu) hpk (fun b hb=>Or.inl hb) (fun i hi b hb=>Or.inr ⟨i,mem_dedup.2 (List.mem_flatMap.2 ⟨_,List.getElem_mem hlt,hi⟩),hb⟩)).1
 obtain⟨l2,s2,r2⟩:=new_row s' et e h0 xs arr' len (by omega) (by simp only[maxLen]; have:len≤len*T.size et:=Nat.le_mul_of_pos_right _ (by omega); omega) hcur hrep
 rw[n1] at l2 s2 r2
 refine⟨_,_,_,_,_,hkk,rfl,s2,l.trans l2,r2,?_⟩
 have hnot:¬(16777216<len*T.size et):=by omega
 have hzero:(if len*T.size et=0 then (pure #[]:Sem (Array Value)) else do pure (←zeroValue et).cells).run P w=.ok (if len*T.size et=0 then #[] else zv.cells) w:=by
  split<;>simp[hzr]
 by_cases hl0:len*T.size et=0
 ·have:(Array.range (len*T.size et)).map (fun n=>zv.cells[n % zv.cells.size]!)=(Array.range (len*T.size et)).map (fun n=>(#[]:Array Value)[n % (#[]:Array Value).size]!):=by rw[hl0]; simp
  rw[this] at e1
  simp[execOp,ho,Instr.buildSlice,run_underlying hund',sizeOf,typeInfo,hi,hs,hl0] at e1 ⊢
  rw[e1]; simp[newRow,World.alloc_eq]
 ·simp[execOp,ho,Instr.buildSlice,run_underlying hund',sizeOf,typeInfo,hi,hs,hl0,hnot,hzr]
  simp at e1
  rw[e1]; simp[newRow,World.alloc_eq]
end
section
variable {P:Program} {T:Tab} {o:Oper} {a:Act} {w:World} {α:Type} {r:α}
theorem make_sound {K} (hT:TabOk P T) (st:AS) {g:Gh} (s:St K st.heap g w) (t:TypeId) (x y:Operand) (ho:o.op=.makeSlice t x y) (u v:AVal) (hu:Rep st.heap g w u (a.eval x)) (hv:Rep st.heap g w v (a.eval y))
  (k:AVal→AS→Option α) (hk:evMake real T t u v st.heap (fun v h=>k v { st with heap:=h })=some r):Good K P o a st g w k r:=by
 unfold evMake at hk
 split at hk
 ·rename_i et n m hund
  have hx:=rep_int hu
  have hy:=rep_int hv
  split at hk
  ·rename_i e z hsh hz
   split at hk
   ·rename_i hc
    obtain⟨h1,h0,hb⟩:=hc
    split at hk
    ·rename_i d hd
     simp only[real] at hk
     split at hk
     ·rename_i hn
      obtain⟨hn0,hnm,hroom⟩:=hn
      obtain⟨p,rfl⟩:=Int.eq_ofNat_of_zero_le hn0
      obtain⟨q,rfl⟩:=Int.eq_ofNat_of_zero_le (show 0≤m by omega)
      have hpq:p≤q:=by omega
      obtain⟨i,zv,hi,hs,hby,hzi,hzv⟩:=tab_zero hT hz
      have hsim:=Sh.all_spec hd
      have hzz:Rep st.heap g w z zv:=by rw[←hzv]; exact rep_value zv
      have hscal:z.cells.all AVal.scalar=true:=by
       refine List.all_eq_true.2 fun c hc=>?_
       obtain⟨j,hj,rfl⟩:=List.mem_iff_getElem.1 hc
       have hj2:j<(e.cells d).length:=by rw[←hsim.1]; exact hj
       have:=hsim.2 j _ _ (List.getElem?_eq_getElem hj) (List.getElem?_eq_getElem hj2)
       have hp:=Sh.cells_pure e d _ (List.getElem_mem hj2)
       rcases this with h|⟨h,_⟩
       ·rw[h]
        generalize (e.cells d)[j]=c at hp
        cases c<;>first|rfl|(simp[AVal.pure0] at hp)
       ·rw[h]; rfl
      obtain⟨c1,c2,_⟩:=cells_rep hzz hscal
      have hzs:zv.cells.size=e.size:=by rw[c1,hsim.1,Sh.cells_size]
      have hbytes:(i.bytes:Int)*(q:Int)≤281474976710656:=by
       rw[hby,Int.mul_comm]; simp only[room] at hroom; omega
      have hq1:q≤q*T.bytes et:=Nat.le_mul_of_pos_right _ (Nat.pos_of_ne_zero hb)
      have hq2:q*T.bytes et≤140737488355328:=by
       simp only[room] at hroom
       have:((q*T.bytes et:Nat):Int)≤140737488355328:=by rw[Int.natCast_mul]; exact hroom
       omega
      have hrun:=run_make (P:=P) w t et i zv (und_sl hT hund) hi hzi .i64 .i64 p q (by omega) (by omega) hbytes (by omega)
      have hlen:(List.replicate p d).length=p:=by simp
      have hmc:(madeCells zv.cells (q*i.size)).size=q*e.size:=by rw[size_madeCells,hs,h1]
      obtain⟨l,s',hr⟩:=new_row s et e h0 (List.replicate p d) (madeCells zv.cells (q*i.size)) q (by rw[hlen]; exact hpq) (by simp only[maxLen]; omega) hmc (fun n x j c u hx hc hu=>by
       have hxd:x=d:=by
        rw[List.getElem?_replicate] at hx
        split at hx
        ·cases hx; rfl
        ·cases hx
       subst hxd
       have hj:j<e.size:=by have:=(List.getElem?_eq_some_iff.1 hc).1; rwa [Sh.cells_size] at this
       have hlt:=(Array.getElem?_eq_some_iff.1 hu).1
       have hu2:u=zv.cells[j]!:=by
        have hmod:(n*e.size+j) % zv.cells.size=j:=by rw[hzs,Nat.mul_comm,Nat.mul_add_mod,Nat.mod_eq_of_lt hj]
        simp only[madeCells,Array.getElem?_map,Array.getElem?_range] at hu
        rw[if_pos (by rw[size_madeCells] at hlt; exact hlt)] at hu
        simp only[Option.map_some,Option.some.injEq] at hu
        rw[←hu,hmod]
       have hz1:j<z.cells.length:=by rw[hsim.1,Sh.cells_size]; exact hj
       have hzc:=List.getElem?_eq_getElem hz1
       refine (hsim.2 j _ c hzc hc).rep ?_
       rw[hu2,getElem!_pos zv.cells _ (by omega)]
       exact (c2 j _ _ hzc (Array.getElem?_eq_getElem (by omega))).2)
      rw[hlen] at l s' hr
      refine⟨_,_,_,_,_,hk,rfl,s',l,hr,?_⟩
      simp[execOp,ho,hx,hy,hrun]
     ·cases hk
    ·cases hk
   ·cases hk
  ·cases hk
 ·cases hk
theorem store_row {K h g w} (s:St K h g w) {i:Nat} {t:TypeId} {e:Sh} {xs:List e.ty} (hi:h[i]?=some (.row true t e xs)) (h0:0<e.size) {b n c:Nat} (hρ:g.ρ i=.slice (some ⟨b,0,none⟩) n c)
  {ix off:Nat} (hlt:ix<xs.length) {x d:e.ty} (hx:xs[ix]?=some x) {vs:List AVal} {xs':List Value} (ho:off+vs.length≤e.size) (hd:Sims (List.overAt (e.cells x) off vs) (e.cells d)) (hl:xs'.length=vs.length)
  (hr:∀(j:Nat) c z,vs[j]?=some c→xs'[j]?=some z→Rep h g w c z) :
  ∃cur,w.heap[b]?=some (.cells cur t (0,0))∧ix*e.size+off+vs.length≤cur.size ∧
   Le K h g w (h.set i (.row true t e (xs.set ix d))) g (w.setRow b (cur.toList.take (ix*e.size+off)++xs'++cur.toList.drop (ix*e.size+off+xs'.length)).toArray) ∧
   St K (h.set i (.row true t e (xs.set ix d))) g (w.setRow b (cur.toList.take (ix*e.size+off)++xs'++cur.toList.drop (ix*e.size+off+xs'.length)).toArray):=by
 obtain⟨vv,h1,h2⟩:=(rowOk_iff h0).1 (s.blk i _ hi)
 rcases h1.2 with ⟨h3,_⟩|⟨b',cap,cur,h3,h5,h6,h7,h8,h9,h10⟩
 ·rw[h3] at hρ; cases hρ
 ·rw[h3] at hρ; cases hρ
  have hmul:(ix+1)*e.size≤xs.length*e.size:=Nat.mul_le_mul_right _ hlt
  have hmul2:xs.length*e.size≤c*e.size:=Nat.mul_le_mul_right _ h7
  rw[Nat.add_mul] at hmul
  have hfit:ix*e.size+off+vs.length≤cur.size:=by omega
  have hb:blockOf (g.ρ i)=some b:=by rw[h3]; rfl
  have ha:alive h i:=⟨_,hi,by simp⟩
  have l:Le K h g w (h.set i (.row true t e (xs.set ix d))) g (w.setRow b (cur.toList.take (ix*e.size+off)++xs'++cur.toList.drop (ix*e.size+off+xs'.length)).toArray):=
   le_setRow s hi (by simp) hb _ (fun wr cs' e=>by cases e) (fun wr t2 e2 xs2 e'=>by cases e'; exact⟨xs,rfl,fun _=>by simp⟩) (by simp) (fun _ _ _ _ _ _ e=>by cases e) (fun cs e=>by cases e) (fun t e xs e'=>by cases e')
  refine⟨cur,h6,hfit,l,s.turn i _ l ha (setRow_keeps s ha hb _) ((rowOk_iff h0).2 ⟨(List.overAt cur.toList (ix*e.size+off) xs').take (xs.length*e.size),?_,fun m y j cc hy hcc=>?_⟩)⟩
  ·refine⟨by simp[overAt_length]; omega,.inr ⟨b,c,(List.overAt cur.toList (ix*e.size+off) xs').toArray,by rw[h3]; simp,Nat.zero_le _,?_,by simpa using h7,h8,by simp[overAt_length,h9],by simp⟩⟩
   rw[overAt_eq _ _ _ (by simp[hl]; omega)]
   exact setRow_heap w b cur _ t _ h6
  ·have hj:j<e.size:=by have:=(List.getElem?_eq_some_iff.1 hcc).1; rwa [Sh.cells_size] at this
   have hm:m<xs.length:=by have:=(List.getElem?_eq_some_iff.1 hy).1; simpa using this
   have hmm:(m+1)*e.size≤xs.length*e.size:=Nat.mul_le_mul_right _ hm
   rw[Nat.add_mul] at hmm
   have hin:m*e.size+j<cur.size:=by omega
   have hold:∀y',xs[m]?=some y'→∀c',(e.cells y')[j]?=some c'→∃u,cur.toList[m*e.size+j]?=some u∧Rep h g w c' u:=fun y' hy' c' hc'=>by
    obtain⟨u,hu,hru⟩:=h2 m y' j c' hy' hc'
    refine⟨u,?_,hru⟩
    rw[←h10,List.getElem?_take] at hu
    split at hu
    ·exact hu
    ·cases hu
   rw[List.getElem?_take,if_pos (by omega),overAt_get _ _ _ (by simp[hl]; omega)]
   by_cases em:m=ix
   ·subst em
    rw[List.getElem?_set_self hlt] at hy
    cases hy
    have hj2:j<(List.overAt (e.cells x) off vs).length:=by rw[overAt_length,Sh.cells_size]; exact hj
    have hs:=hd.2 j _ cc (List.getElem?_eq_getElem hj2) hcc
    have hov:=List.getElem?_eq_getElem hj2
    rw[overAt_get _ _ _ (by rw[Sh.cells_size]; exact ho)] at hov
    by_cases ej:off≤j∧j<off+vs.length
    ·rw[if_pos ej] at hov
     rw[if_pos (by omega)]
     have hz:xs'[j-off]?=some (xs'[j-off]'(by omega)):=List.getElem?_eq_getElem _
     refine⟨_,by rw[show m*e.size+j-(m*e.size+off)=j-off by omega]; exact hz,(hs.rep (hr _ _ _ hov hz)).mono l⟩
    ·rw[if_neg ej] at hov
     rw[if_neg (by omega)]
     obtain⟨u,hu,hru⟩:=hold x hx _ hov
     exact⟨u,hu,(hs.rep hru).mono l⟩
   ·rw[List.getElem?_set_ne (fun e'=>em e'.symm)] at hy
    have hne:¬(ix*e.size+off≤m*e.size+j∧m*e.size+j<ix*e.size+off+vs.length):=by
     rcases Nat.lt_or_ge m ix with h|h
     ·have:(m+1)*e.size≤ix*e.size:=Nat.mul_le_mul_right _ h
      rw[Nat.add_mul] at this; omega
     ·have:(ix+1)*e.size≤m*e.size:=Nat.mul_le_mul_right _ (by omega)
      rw[Nat.add_mul] at this; omega
    rw[if_neg (by rw[hl]; exact hne)]
    obtain⟨u,hu,hru⟩:=hold y hy cc hcc
    exact⟨u,hu,hru.mono l⟩
theorem store_sound {K} (hT:TabOk P T) (st:AS) {g:Gh} (s:St K st.heap g w) (t:TypeId) (x y:Operand) (ho:o.op=.store t x y) (u v:AVal) (hu:Rep st.heap g w u (a.eval x)) (hv:Rep st.heap g w v (a.eval y))
  (k:AS→Option α) (hk:evStore T t u v st.heap (fun h=>k { st with heap:=h })=some r) :
  ∃st' w',k st'=some r∧st'.tmps=st.tmps∧St K st'.heap g w'∧Le K st.heap g w st'.heap g w'∧(execOp a.eval o).run P w=.ok .skip w':=by
 unfold evStore at hk
 split at hk
 ·rename_i hlen
  split at hk
  ·rename_i hsc
   obtain⟨c1,c2,c3⟩:=cells_rep hv hsc
   obtain⟨inf,hinf,hinfs,_⟩:=tab_size hT (t:=t) (by omega)
   have hsize:∀n,T.size t=n→(sizeOf t).run P w=.ok n w:=fun n hn=>by simp[sizeOf,typeInfo,hinf,hinfs,hn]
   split at hk
   ·rename_i i off
    split at hk
    ·rename_i cs hh
     split at hk
     ·rename_i hoff
      have hi:=getD_some (by simp) hh
      obtain⟨b,arr,ty,h1,h2,h3,l,s'⟩:=store_box (xs:=(a.eval y).cells.toList) s hi (by simp[c1]) hoff (fun j c z hc hz=>c2 j c z hc (by simpa using hz))
      have hx:a.eval x=.pointer (some ⟨b,off,none⟩):=by
       cases hu with
       |op _ _ _ a1 a2 a3=>
        obtain⟨b',h5,h6⟩:=a3 true cs hi
        rw[h1] at h5; cases h5; exact h6
      refine⟨_,_,hk,rfl,s',l,?_⟩
      have hst:=run_storeCells_at P b off ty (a.eval y).cells.toList 0 arr w h2 (by simp[c1]; omega) c3
      simp only[Nat.add_zero] at hst
      have hsz:=hsize _ hlen.1.symm
      simp[execOp,ho,hx,Instr.storeAt,Instr.sureAddr,storeVar,hsz,c1,hst]
     ·cases hk
    ·cases hk
   ·rename_i i ix off
    split at hk
    ·rename_i t' e xs hh
     split at hk
     ·rename_i hoff
      split at hk
      ·rename_i d hd
       have hi:=getD_some (by simp) hh
       have h0:0<e.size:=by omega
       obtain⟨hlt,b,n,c,h5,hu'⟩:ix<xs.length∧∃b n c,g.ρ i=.slice (some ⟨b,0,none⟩) n c∧a.eval x=.pointer (some ⟨b,ix*e.size+off,none⟩):=by
        cases hu with
        |oe _ _ _ _ a1 a2 a3=>exact a3 true t' e xs hi h0
       have hget:=getD_get (d:=e.dflt) hlt
       obtain⟨cur,h7,h8,l,s'⟩:=store_row s hi h0 h5 hlt hget (xs':=(a.eval y).cells.toList) hoff (Sh.all_spec hd) (by simp[c1]) (fun j c z hc hz=>(c2 j c z hc (by simpa using hz)).2)
       refine⟨_,_,hk,rfl,s',l,?_⟩
       have hst:=run_storeCells_at P b (ix*e.size+off) t' (a.eval y).cells.toList 0 cur w h7 (by simp[c1]; omega) c3
       simp only[Nat.add_zero] at hst
       have hsz:=hsize _ hlen.1.symm
       simp[execOp,ho,hu',Instr.storeAt,Instr.sureAddr,storeVar,hsz,c1,hst]
      ·cases hk
     ·cases hk
    ·cases hk
   ·cases hk
  ·cases hk
 ·cases hk
end
theorem kill_plain {K h g w} (s:St K h g w) {i:Nat} {t:TypeId} {e:Sh} {xs:List e.ty} (hi:h[i]?=some (.row true t e xs)):Le K h g w (h.set i .dead) g w∧St K (h.set i .dead) g w:=by
 have l:Le K h g w (h.set i .dead) g w:={
  len:=by simp
  here:=here_set hi (by simp)
  m:=fun _ h=>h
  new:=fun b hb=>.inl hb
  mw:=fun _ _=>rfl
  k:=fun _ _=>rfl
  box:=fun j wr cs' _ h'=>by
   rcases set_get h' with ⟨rfl,e,_⟩|⟨_,e⟩
   ·cases e
   ·exact⟨wr,cs',e,rfl,rfl⟩
  row:=fun j wr t e xs' _ h'=>by
   rcases set_get h' with ⟨rfl,e,_⟩|⟨_,e⟩
   ·cases e
   ·exact⟨wr,xs',e,fun _=>rfl,rfl⟩
  lp:=fun j st pend ts ps aw bo _ h'=>by
   rcases set_get h' with ⟨rfl,e,_⟩|⟨_,e⟩
   ·cases e
   ·exact⟨st,pend,e,rfl⟩
  lockb:=fun j cs h'=>by
   have:i≠j:=fun e=>by subst e; rw[hi] at h'; cases h'
   rw[List.getElem?_set,if_neg this]; exact h'
  lockr:=fun j t e xs h'=>by
   have:i≠j:=fun e=>by subst e; rw[hi] at h'; cases h'
   rw[List.getElem?_set,if_neg this]; exact h'
  os:=rfl
  tape:=rfl
  output:=rfl
  size:=Nat.le_refl _ }
 exact⟨l,s.turn i .dead l ⟨_,hi,by simp⟩ (fun _ _ _ _ _=>rfl) trivial⟩
theorem pure_scalar {c:AVal} (h:c.pure0=true):c.scalar=true:=by
 cases c<;>first|rfl|(simp[AVal.pure0] at h)
section
variable {P:Program} {T:Tab} {o:Oper} {a:Act} {w:World} {α:Type} {r:α}
theorem rowOf_spec {K h g} (s:St K h g w) {et:TypeId} {u:AVal} {z:Value} (hu:Rep h g w u z) {e:Sh} {xs:List e.ty} {h':List ABlk} (hr:rowOf T h et u=some ⟨e,xs,h'⟩) :
  ∃vs,w.ownsRow 0 et e.size z xs.length vs∧(∀(n:Nat) x (j:Nat) c,xs[n]?=some x→(e.cells x)[j]?=some c→∃u,vs[n*e.size+j]?=some u∧Rep h g w c u) ∧
   Le K h g w h' g w∧St K h' g w∧∀n,blockOf z=some n→(¬K n∧¬g.M n∧n<w.heap.size)∧∀j,alive h' j→blockOf (g.ρ j)≠some n:=by
 unfold rowOf at hr
 split at hr
 ·rename_i i
  split at hr
  ·rename_i t' e' xs' hh
   split at hr
   ·rename_i ht
    obtain⟨ht,h0⟩:=ht
    subst ht
    cases hr
    have hi:=getD_some (by simp) hh
    obtain⟨vs,h1,h2⟩:=(rowOk_iff h0).1 (s.blk i _ hi)
    obtain⟨l,s'⟩:=kill_plain s hi
    have hz:=rep_own hu hi
    refine⟨vs,by rw[hz]; exact h1,h2,l,s',fun n hn=>?_⟩
    rw[hz] at hn
    refine⟨s.sep i n ⟨_,hi,by simp⟩ hn,fun j hj hjn=>?_⟩
    obtain⟨b,hb,hd⟩:=hj
    rcases set_get hb with ⟨_,e,_⟩|⟨hne,e⟩
    ·exact hd e
    ·exact hne (s.inj j i n ⟨b,e,hd⟩ ⟨_,hi,by simp⟩ hjn hn)
   ·cases hr
  ·cases hr
 ·split at hr
  ·split at hr
   ·cases hr
    cases hu
    exact⟨[],World.ownsRow_nil w 0 et _,fun n x j c hx=>by simp at hx,.refl,s,fun n hn=>by simp[blockOf] at hn⟩
   ·cases hr
  ·cases hr
 ·cases hr
theorem src_spec {K h g} (s:St K h g w) {y:AVal} {z:Value} (hy:Rep h g w y z) {e:Sh} (h0:0<e.size) {ys:List e.ty} (hr:asRo h y=some ⟨e,ys⟩) :
  ∃(p:Option Addr) (c:Nat) (news:List Value),z=.slice p ys.length c∧news.length=ys.length*e.size∧(p=none→ys=[]∧c=0)∧(∀ad,p=some ad→∀(j:Nat) u,news[j]?=some u→w.cell? (ad.add j)=some u) ∧
   (∀(n:Nat) x (j:Nat) c,ys[n]?=some x→(e.cells x)[j]?=some c→∃u,news[n*e.size+j]?=some u∧Rep h g w c u)∧∀u∈news,u.oneCell'=true:=by
 have ones:∀(news:List Value),news.length=ys.length*e.size→(∀(n:Nat) x (j:Nat) c,ys[n]?=some x→(e.cells x)[j]?=some c→∃u,news[n*e.size+j]?=some u∧Rep h g w c u)→∀u∈news,u.oneCell'=true:=by
  intro news hl hn u hu
  obtain⟨q,hq,rfl⟩:=List.mem_iff_getElem.1 hu
  have hd:q / e.size<ys.length:=by rw[Nat.div_lt_iff_lt_mul h0]; omega
  have hm:q % e.size<(e.cells ys[q / e.size]).length:=by rw[Sh.cells_size]; exact Nat.mod_lt _ h0
  obtain⟨v,hv,hrv⟩:=hn (q / e.size) _ (q % e.size) _ (List.getElem?_eq_getElem hd) (List.getElem?_eq_getElem hm)
  rw[Nat.div_add_mod'] at hv
  rw[List.getElem?_eq_getElem hq] at hv
  cases hv
  exact scalar_one hrv (pure_scalar (Sh.cells_pure e _ _ (List.getElem_mem hm)))
 unfold asRo at hr
 split at hr
 ·rename_i d zs
  cases hr
  obtain⟨p,c,hx,hlc,hm,hpc,hbl⟩:=rep_ro hy
  rcases Nat.eq_zero_or_pos ys.length with hz|hz
  ·have:ys=[]:=List.eq_nil_of_length_eq_zero hz
   subst this
   exact⟨p,c,[],hx,by simp,fun hp=>⟨rfl,hpc hp⟩,fun ad _ j u hu=>by simp at hu,fun n x j c hx=>by simp at hx,fun u hu=>by simp at hu⟩
  ·obtain⟨b,n,rfl,hM,us,hc1,hc2⟩:=hbl hz
   have hget:∀q,q<ys.length*e.size→∃x c,ys[q / e.size]?=some x∧(e.cells x)[q % e.size]?=some c:=fun q hq=>by
    have hd:q / e.size<ys.length:=by rw[Nat.div_lt_iff_lt_mul h0]; omega
    have hm:q % e.size<(e.cells ys[q / e.size]).length:=by rw[Sh.cells_size]; exact Nat.mod_lt _ h0
    exact⟨_,_,List.getElem?_eq_getElem hd,List.getElem?_eq_getElem hm⟩
   have hnl:((List.range (ys.length*e.size)).map fun q=>us (q / e.size) (q % e.size)).length=ys.length*e.size:=by simp
   have hrep:∀(m:Nat) x (j:Nat) c,ys[m]?=some x→(e.cells x)[j]?=some c→∃u,((List.range (ys.length*e.size)).map fun q=>us (q / e.size) (q % e.size))[m*e.size+j]?=some u∧Rep h g w c u:=fun m x j c hx hc=>by
    have hj:j<e.size:=by have:=(List.getElem?_eq_some_iff.1 hc).1; rwa [Sh.cells_size] at this
    have hm':=(List.getElem?_eq_some_iff.1 hx).1
    have hmul:(m+1)*e.size≤ys.length*e.size:=Nat.mul_le_mul_right _ hm'
    rw[Nat.add_mul] at hmul
    have e1:(m*e.size+j) / e.size=m:=by rw[Nat.mul_comm,Nat.mul_add_div h0,Nat.div_eq_of_lt hj,Nat.add_zero]
    have e2:(m*e.size+j) % e.size=j:=by rw[Nat.mul_comm,Nat.mul_add_mod,Nat.mod_eq_of_lt hj]
    refine⟨us m j,?_,hc2 m x j c hx hc⟩
    rw[List.getElem?_map,List.getElem?_range (by omega)]
    simp[e1,e2]
   refine⟨_,c,_,hx,hnl,fun hp=>(by cases hp),fun ad had j u hu=>?_,hrep,ones _ hnl hrep⟩
   cases had
   rw[List.getElem?_map] at hu
   have hj:j<ys.length*e.size:=by
    rcases Nat.lt_or_ge j (ys.length*e.size) with h|h
    ·exact h
    ·rw[List.getElem?_eq_none (by simpa using h)] at hu; cases hu
   rw[List.getElem?_range hj] at hu
   simp only[Option.map_some,Option.some.injEq] at hu
   subst hu
   obtain⟨x,c',g1,g2⟩:=hget j hj
   have:=hc1 _ x _ c' g1 g2
   rw[Nat.add_assoc,Nat.div_add_mod'] at this
   rw[Addr.add_lit]; exact this
 ·rename_i i
  cases hh:h.getD i .dead with
  |dead=>rw[hh] at hr; cases hr
  |box wr cs=>rw[hh] at hr; cases hr
  |lp=>rw[hh] at hr; cases hr
  |free=>rw[hh] at hr; cases hr
  |row wr t d zs=>
   rw[hh] at hr
   simp only at hr
   split at hr
   case isFalse=>cases hr
   cases hr
   have hi:=getD_some (by simp) hh
   obtain⟨vs,h1,h2⟩:=(rowOk_iff h0).1 (s.blk i _ hi)
   obtain⟨p,c,hρ,hp⟩:=row_slice s hi h0
   have hz:=rep_own hy hi
   refine⟨p,c,vs,by rw[hz,hρ],h1.1,fun hpn=>?_,fun ad had j u hu=>?_,h2,ones vs h1.1 h2⟩
   ·rcases h1.2 with ⟨h3,h4⟩|⟨n,cap,cur,h3,_⟩
    ·rw[h3] at hρ
     obtain⟨_,_,e3⟩:=Value.slice.inj hρ
     exact⟨List.eq_nil_of_length_eq_zero h4,e3.symm⟩
    ·rw[h3] at hρ
     obtain⟨e1,_,_⟩:=Value.slice.inj hρ
     rw[hpn] at e1; cases e1
   ·subst had
    rcases h1.2 with ⟨h3,h4⟩|⟨n,cap,cur,h3,_⟩
    ·rw[h3] at hρ
     obtain⟨e1,_,_⟩:=Value.slice.inj hρ
     cases e1
    ·have hcl:=h1.cells (g:=n) (by rw[h3]; rfl) j u hu
     rw[h3] at hρ; cases hρ
     exact hcl
 ·cases hr
theorem append_run (hT:TabOk P T) (t ty et:TypeId) (hund:T.und t=some (.sl et)) {sz:Nat} (hs:T.size et=sz) (h0:0<sz) (v:Value) (n:Nat) (xs:List Value) (hown:w.ownsRow 0 et sz v n xs)
  (ad:Addr) (m c:Nat) (news:List Value) (hl:news.length=m*sz) (hnews:∀(j:Nat) u,news[j]?=some u→w.cell? (ad.add j)=some u) (h1:∀u∈news,u.oneCell'=true)
  (z:AVal) (hz:T.zero et=some z) (hzs:z.cells.all AVal.scalar=true∧z.cells.length=sz) (hb:T.bytes et≠0) (hbytes:(n+m)*T.bytes et≤room) :
  ∃v' w',(Builtin.append_ #[t,t] ty #[v,.slice (some ad) m c]).run P w=.ok v' w'∧w'.ownsRow 0 et sz v' (n+m) (xs++news)∧w.grownBy w' v.ownBlock∧(v'.ownBlock=v.ownBlock∨v'.ownBlock=some w.heap.size):=by
 obtain⟨i,zv,hi,his,hib,hzi,hzv⟩:=tab_zero hT hz
 have ht:=und_sl hT hund
 have hr0:Rep [] ⟨fun _=>Go.undef,fun _=>False⟩ w z zv:=by rw[←hzv]; exact rep_value zv
 have hzc:=(cells_rep hr0 hzs.1).1
 have h63:n+m≤maxLen:=by
  have:n+m≤(n+m)*T.bytes et:=Nat.le_mul_of_pos_right _ (Nat.pos_of_ne_zero hb)
  simp only[room] at hbytes; simp only[maxLen]; omega
 obtain⟨v',w',hr,h2,h3,h4⟩:=run_append_own (P:=P) w 0 t ty et i zv sz (T.bytes et) ht hi hzi (by rw[his,hs]) hib (by rw[hzc,hzs.2]) h0 v n xs hown ad m c news hl hnews h1 h63 hbytes (Nat.zero_le _)
 refine⟨v',w',hr,h2,h3,?_⟩
 have hsz:i.size=sz:=by rw[his,hs]
 have hmax:((n+m:Nat):Int)≤9223372036854775807:=by simp only[maxLen] at h63; omega
 rcases hown.2 with ⟨rfl,rfl⟩|⟨g,cap,cur,rfl,hbg,hg,hnc,hcm,hcs,htake⟩
 ·by_cases hm:m=0
  ·left
   rw[h4.2 ⟨rfl,hm⟩]
  ·right
   have hx:xs=[]:=List.eq_nil_of_length_eq_zero (by simpa using hown.1)
   subst hx
   have:=run_append_nil (P:=P) w t ty et i zv ht hi hzi ad m c news (by rw[hsz]; exact hl) hnews (by omega) (by omega) (by rw[hib]; have hb:=hbytes; simp only[Nat.zero_add,room] at hb; omega)
   rw[this] at hr
   cases hr; rfl
 ·by_cases hroom:n+m≤cap
  ·left
   have hfit:n*i.size+news.length≤cur.size:=by rw[hl,hcs,hsz,←Nat.add_mul]; exact Nat.mul_le_mul_right _ hroom
   have:=run_append_room (P:=P) w t ty et i ht hi g n cap cur hg ad m c news (by rw[hsz]; exact hl) hnews h1 hroom hfit
   rw[this] at hr
   cases hr; rfl
  ·right
   have holds:∀j u,xs[j]?=some u→w.cell? ((⟨g,0,none⟩:Addr).add j)=some u:=hown.cells (g:=g) rfl
   have:=run_append_grow (P:=P) w t ty et i zv ht hi hzi ⟨g,0,none⟩ n cap xs (by rw[hsz]; exact hown.1) holds ad m c news (by rw[hsz]; exact hl) hnews (by omega) hmax (growslice_fits (by omega) (by rw[hib]; exact hbytes))
   rw[this] at hr
   cases hr; rfl
theorem append_sound {K} (hT:TabOk P T) (st:AS) {g:Gh} (s:St K st.heap g w) (b:Builtin) (hb:b=.append) (t:TypeId) (args:Array Operand) (ts:Array TypeId) (x y:Operand) (ha:args.toList=[x,y]) (hts:ts.toList=[t,t])
  (ho:o.op=.call { callee:=.builtin b,args,argTypes:=ts }) (u v:AVal) (hu:Rep st.heap g w u (a.eval x)) (hv:Rep st.heap g w v (a.eval y))
  (k:AVal→AS→Option α) (hk:evAppend real T t u v st.heap (fun v h=>k v { st with heap:=h })=some r):Good K P o a st g w k r:=by
 subst hb
 obtain⟨args⟩:=args
 obtain⟨ts⟩:=ts
 simp only at ha hts
 subst ha; subst hts
 unfold evAppend at hk
 split at hk
 ·rename_i et hund
  split at hk
  ·cases hk
  ·rename_i hbne
   split at hk
   ·cases hk
   ·rename_i e xs h' hrow
    obtain⟨vs,hown,hrep,l0,s0,hz⟩:=rowOf_spec s hu hrow
    split at hk
    ·rename_i hc
     obtain⟨hsz,h0⟩:=hc.1
     have hexec:∀v' w',(Builtin.append_ #[t,t] o.type #[a.eval x,a.eval y]).run P w=.ok v' w'→(execOp a.eval o).run P w=.ok (.value v') w':=fun v' w' h=>by
      simp[execOp,ho,resolve,invoke,builtin,h]
     split at hk
     ·-- nothing is appended
      have hy:a.eval y=.slice none 0 0:=rep_nils hv
      obtain⟨i,hi,his,_⟩:=tab_size hT (t:=et) (by omega)
      have hrun:=run_append_owned_none (P:=P) (w:=w) 0 t o.type et i e.size (und_sl hT hund) hi (a.eval x) xs.length vs hown
      have l1:Le K h' g w (h'++[.row true et e xs]) (g.at h'.length (a.eval x)) w:=le_grow s0 _ _ (Below.refl _ _)
      have s1:=s0.grow (.row true et e xs) (a.eval x) l1 (fun _ _ _ _=>rfl) ((rowOk_iff h0).2 ⟨vs,by rw[g.at_same]; exact hown,fun n z j c hx hc=>let ⟨q,h1,h2⟩:=hrep n z j c hx hc; ⟨q,h1,(h2.mono l0).mono l1⟩⟩) hz
      refine⟨_,_,_,_,_,hk,rfl,s1,l0.trans l1,.own _ _ (Here.of (List.getElem?_concat_length ..) (by simp)) ?_ fun wr t' e' xs' hx=>(g.at_same _ _).symm,hexec _ _ (by rw[hy]; exact hrun)⟩
      rcases hown.2 with ⟨h1,_⟩|⟨_,_,_,h1,_⟩<;>rw[h1]<;>rfl
     ·split at hk
      ·cases hk
      ·rename_i d ys hsrc
       split at hk
       ·rename_i hd
        subst hd
        obtain⟨p,c,news,hy,hnl,hpn,hnews,hnrep,hones⟩:=src_spec s hv h0 hsrc
        simp only[real] at hk
        split at hk
        ·rename_i hroom
         obtain⟨zz,hzz⟩:∃z,T.zero et=some z:=Option.isSome_iff_exists.1 hc.2.1
         have hzs:=hc.2.2
         rw[hzz] at hzs
         have main:∃v' w',(Builtin.append_ #[t,t] o.type #[a.eval x,a.eval y]).run P w=.ok v' w'∧w'.ownsRow 0 et d.size v' (xs.length+ys.length) (vs++news)∧w.grownBy w' (a.eval x).ownBlock∧(v'.ownBlock=(a.eval x).ownBlock∨v'.ownBlock=some w.heap.size):=by
          cases p with
          |none=>
           obtain⟨e1,e2⟩:=hpn rfl
           subst e1; subst e2
           have:news=[]:=List.eq_nil_of_length_eq_zero (by simpa using hnl)
           subst this
           obtain⟨i,hi,his,_⟩:=tab_size hT (t:=et) (by omega)
           have hrun:=run_append_owned_none (P:=P) (w:=w) 0 t o.type et i d.size (und_sl hT hund) hi (a.eval x) xs.length vs hown
           refine⟨_,_,by rw[hy]; exact hrun,by simpa using hown,⟨rfl,rfl,rfl,Nat.le_refl _,fun _ _ _=>rfl⟩,.inl rfl⟩
          |some ad=>
           rw[hy]
           exact append_run hT t o.type et hund hsz h0 (a.eval x) xs.length vs hown ad ys.length c news hnl (hnews ad rfl) hones zz hzz (by simpa using hzs) hbne hroom
         obtain⟨v',w',hrun,hown',hgr,hblk⟩:=main
         have hown0:∀n,blockOf (a.eval x)=some n↔(a.eval x).ownBlock=some n:=fun n=>by
          rcases hown.2 with ⟨h1,_⟩|⟨_,_,_,h1,_⟩<;>rw[h1]<;>simp[blockOf,Value.ownBlock]
         have hown1:∀n,blockOf v'=some n↔v'.ownBlock=some n:=fun n=>by
          rcases hown'.2 with ⟨h1,_⟩|⟨_,_,_,h1,_⟩<;>rw[h1]<;>simp[blockOf,Value.ownBlock]
         have hkeep:∀b,b<w.heap.size→blockOf (a.eval x)≠some b→w'.heap[b]?=w.heap[b]?:=fun b hb hne=>
          hgr.block b hb fun e=>hne ((hown0 b).2 e.symm)
         have l1:Le K h' g w (h'++[.row true et d (xs++ys)]) (g.at h'.length v') w':={
          len:=by simp
          here:=fun i ⟨b,hb,hn⟩=>⟨b,by rw[List.getElem?_append_left (List.getElem?_eq_some_iff.1 hb).1]; exact hb,hn⟩
          m:=fun _ h=>h
          new:=fun _ h=>.inl h
          mw:=fun b hb=>hkeep b (s.low b hb) fun e=>(hz b e).1.2.1 hb
          k:=fun b hb=>hkeep b (s.klow b hb) fun e=>(hz b e).1.1 hb
          box:=fun i wr cs' hi h'=>by
           rw[List.getElem?_append_left hi.lt] at h'
           replace hi:=hi.lt
           exact⟨wr,cs',h',rfl,g.at_other v' (by omega)⟩
          row:=fun i wr t e xs' hi h'=>by
           rw[List.getElem?_append_left hi.lt] at h'
           replace hi:=hi.lt
           exact⟨wr,xs',h',fun _=>rfl,g.at_other v' (by omega)⟩
          lp:=fun i st pend ts ps aw bo hi h'=>by
           rw[List.getElem?_append_left hi.lt] at h'
           replace hi:=hi.lt
           exact⟨st,pend,h',g.at_other v' (by omega)⟩
          lockb:=fun i cs h'=>by rw[List.getElem?_append_left (List.getElem?_eq_some_iff.1 h').1]; exact h'
          lockr:=fun i t e xs h'=>by rw[List.getElem?_append_left (List.getElem?_eq_some_iff.1 h').1]; exact h'
          os:=hgr.os
          tape:=hgr.tape
          output:=hgr.output
          size:=hgr.size }
         have s1:=s0.grow (.row true et d (xs++ys)) v' l1
          (fun i n hi hn=>hkeep n (s0.sep i n hi hn).2.2 fun e=>(hz n e).2 i hi hn)
          ((rowOk_iff h0).2 ⟨vs++news,by rw[g.at_same,List.length_append]; exact hown',fun n z j c hx hc=>by
            have hj:j<d.size:=by have:=(List.getElem?_eq_some_iff.1 hc).1; rwa [Sh.cells_size] at this
            rcases Nat.lt_or_ge n xs.length with hn|hn
            ·rw[List.getElem?_append_left hn] at hx
             obtain⟨q,h1,h2⟩:=hrep n z j c hx hc
             exact⟨q,by rw[List.getElem?_append_left (List.getElem?_eq_some_iff.1 h1).1]; exact h1,(h2.mono l0).mono l1⟩
            ·rw[List.getElem?_append_right hn] at hx
             obtain⟨q,h1,h2⟩:=hnrep _ z j c hx hc
             refine⟨q,?_,(h2.mono l0).mono l1⟩
             have hmul:xs.length*d.size≤n*d.size:=Nat.mul_le_mul_right _ hn
             rw[List.getElem?_append_right (by rw[hown.1]; omega),hown.1,←h1]
             congr 1
             rw[Nat.sub_mul]; omega⟩)
          (fun n hn=>by
           rcases hblk with hb|hb
           ·have hn0:=(hown0 n).2 (by rw[←hb]; exact (hown1 n).1 hn)
            exact⟨⟨(hz n hn0).1.1,(hz n hn0).1.2.1,Nat.lt_of_lt_of_le (hz n hn0).1.2.2 hgr.size⟩,(hz n hn0).2⟩
           ·have:n=w.heap.size:=by
             have:=(hown1 n).1 hn; rw[hb] at this; cases this; rfl
            subst this
            refine⟨⟨fun hk=>Nat.lt_irrefl _ (s.klow _ hk),fun hm=>Nat.lt_irrefl _ (s.low _ hm),?_⟩,fun i hi hin=>Nat.lt_irrefl _ (s0.sep i _ hi hin).2.2⟩
            exact (hown'.lt _ ((hown1 _).1 hn)).2)
         refine⟨_,_,_,_,_,hk,rfl,s1,l0.trans l1,.own _ _ (Here.of (List.getElem?_concat_length ..) (by simp)) ?_ fun wr t' e' xs' hx=>(g.at_same _ _).symm,hexec _ _ hrun⟩
         rcases hown'.2 with ⟨h1,_⟩|⟨_,_,_,h1,_⟩<;>rw[h1]<;>rfl
        ·cases hk
       ·cases hk
    ·cases hk
 ·cases hk
end
def CPost (M:Nat→Prop) (w:World) (out:AOut) (e:Ending) (w':World):Prop:=
 ∃M':Nat→Prop,(∀b,M b→M' b)∧(∀b,M' b→M b∨w.heap.size≤b)∧(∀b,M' b→b<w'.heap.size)∧Below w.heap.size w w' ∧
  match out with
  |.ret v=>∃x,e=.returned x∧Rep [] ⟨fun _=>Go.undef,M'⟩ w' v x
  |.pan v=>∃x,e=.panicked [{ v:=x,recovered:=false }]∧Rep [] ⟨fun _=>Go.undef,M'⟩ w' v x
structure FspOk (P:Program) (f:FuncId) (S:Fsp):Prop where
 enter:∀args w,(callFunc f args).run P w=.ok (.enter f args) w
 nat:∀(α:Type) args (k:AOut→Option α),S α args k=(S AOut args some).bind k
 calls:∀args out,S AOut args some=some out→∀(M:Nat→Prop) w (cargs:Array Value),(∀b,M b→b<w.heap.size)→args.length=cargs.size →
  (∀(j:Nat) c x,args[j]?=some c→cargs[j]?=some x→Rep [] ⟨fun _=>Go.undef,M⟩ w c x)→Calls P f cargs w (CPost M w out)
def CvPost (K:Nat→Prop) (h:List ABlk) (g:Gh) (w:World) (h1:List ABlk) (x:AExit) (u:AVal) (e:Ending) (w':World):Prop:=
 ∃g',St K h1 g' w'∧Le K h g w h1 g' w' ∧
  match x with
  |.normal=>∃z,e=.returned z∧Rep h1 g' w' u z
  |.pan v=>∃z,e=.panicked [{ v:=z,recovered:=false }]∧Rep h1 g' w' v z
  |_=>False
def CallV (P:Program) (fv:Value) (cargs:Array Value) (w:World) (R:Ending→World→Prop):Prop:=
 (∃f caps,fv=.func (.func f) #[] caps∧(∀w,(callFunc f (cargs++caps)).run P w=.ok (.enter f (cargs++caps)) w)∧Calls P f (cargs++caps) w R) ∨
 (∃l f tmps aw bo,fv=.func (.yield l) #[] #[]∧(Instr.yield l cargs).run P w=.ok (.round l f tmps aw bo) w∧RoundIn (FW none) 0 P l f tmps aw bo w R) ∨
 (∃f caps v,fv=.func (.func f) #[] caps∧(∃x,cargs[0]?=some x∧∀a b c,x≠.func a b c)∧(callFunc f (cargs++caps)).run P w=.ok (.value v) w∧R (.returned v) w)
def tripE (x:AExit) (v:AVal) (h:List ABlk):Option (AExit × AVal × List ABlk):=some (x,v,h)
structure CvOk (P:Program) (cv:Cv):Prop where
 nat:∀(α:Type) v args h (k:AExit→AVal→List ABlk→Option α),cv α v args h k=(cv _ v args h tripE).bind fun p=>k p.1 p.2.1 p.2.2
 ok:∀v args h x u h1,cv _ v args h tripE=some (x,u,h1)→∀(K:Nat→Prop) g w (fv:Value) (cargs:Array Value),St K h g w→Rep h g w v fv→args.length=cargs.size →
  (∀(j:Nat) c z,args[j]?=some c→cargs[j]?=some z→Rep h g w c z)→CallV P fv cargs w (CvPost K h g w h1 x u)
structure EnvOk (P:Program) (env:Env):Prop where
 fs:∀f S,env.fs f=some S→FspOk P f S
 cv:CvOk P env.cv
theorem rep_nil {g w} {v:AVal} {x:Value} (r:Rep [] g w v x) {h:List ABlk} {g':Gh} (hM:∀b,g.M b→g'.M b):Rep h g' w v x:=by
 induction r with
 |any v=>exact .any v
 |undef=>exact .undef
 |int k n=>exact .int k n
 |bool b=>exact .bool b
 |str s=>exact .str s
 |agg cs arr hl _ ih=>exact .agg cs arr hl ih
 |nils=>exact .nils
 |ro0 e p c hc hc'=>exact .ro0 e p c hc hc'
 |ro1 e xs b o c us h0 h1 h2 hm hc _ ih=>exact .ro1 e xs b o c us h0 h1 h2 (hM b hm) hc ih
 |rp cs b o us hm hc _ ih=>exact .rp cs b o us (hM b hm) hc ih
 |own i v hi=>exact absurd hi.lt (by simp)
 |op i off v hi=>exact absurd hi.lt (by simp)
 |oe i ix off v hi=>exact absurd hi.lt (by simp)
 |fn f caps arr hl _ ih=>exact .fn f caps arr hl ih
 |tup cs arr hl _ ih=>exact .tup cs arr hl ih
 |ifc t c x _ ih=>exact .ifc t c x ih
 |nilif=>exact .nilif
 |nilfn=>exact .nilfn
 |nilmp=>exact .nilmp
 |nilpt=>exact .nilpt
 |yld i v hi=>exact absurd hi.lt (by simp)
theorem rep_flat0 {h g w} {v:AVal} {x:Value} (r:Rep h g w v x) (hf:v.flat0=true) {h' g' w'}:Rep h' g' w' v x:=by
 cases r<;>first|(simp[AVal.flat0] at hf; done)|constructor
theorem rep_flat1 {h g w} {v:AVal} {x:Value} (r:Rep h g w v x) (hf:v.flat1=true) {h' g' w'}:Rep h' g' w' v x:=by
 unfold AVal.flat1 at hf
 split at hf
 ·rename_i cs
  cases r with
  |agg _ arr hl hr=>exact .agg _ _ hl fun j c x hc hx=>rep_flat0 (hr j c x hc hx) (List.all_eq_true.1 hf c (List.mem_of_getElem? hc))
 ·exact rep_flat0 r hf
theorem rep_flat2 {h g w} {v:AVal} {x:Value} (r:Rep h g w v x) (hf:v.flat2=true) {h' g' w'}:Rep h' g' w' v x:=by
 unfold AVal.flat2 at hf
 split at hf
 ·rename_i cs
  cases r with
  |tup _ arr hl hr=>exact .tup _ _ hl fun j c x hc hx=>rep_flat1 (hr j c x hc hx) (List.all_eq_true.1 hf c (List.mem_of_getElem? hc))
 ·rename_i t v
  cases r with
  |ifc _ _ y hr=>exact .ifc t v y (rep_flat1 hr hf)
 ·exact rep_flat1 r hf
theorem le_below {K h g w w'} (s:St K h g w) (hb:Below w.heap.size w w') (M':Nat→Prop) (h1:∀b,g.M b→M' b) (h2:∀b,M' b→g.M b∨w.heap.size≤b):Le K h g w h ⟨g.ρ,M'⟩ w' where
 len:=Nat.le_refl _
 here:=fun _ h=>h
 m:=h1
 new:=fun b hb'=>(h2 b hb').imp id fun h hk=>Nat.lt_irrefl _ (Nat.lt_of_lt_of_le (s.klow b hk) h)
 mw:=fun b hb'=>hb.block b (s.low b hb')
 k:=fun b hb'=>hb.block b (s.klow b hb')
 box:=fun i wr cs' _ h'=>⟨wr,cs',h',rfl,rfl⟩
 row:=fun i wr t e xs' _ h'=>⟨wr,xs',h',fun _=>rfl,rfl⟩
 lp:=fun _ st pend _ _ _ _ _ h=>⟨st,pend,h,rfl⟩
 lockb:=fun _ _ h=>h
 lockr:=fun _ _ _ _ h=>h
 os:=hb.os
 tape:=hb.tape
 output:=hb.output
 size:=hb.size
theorem St.below {K h g w w'} (s:St K h g w) (hb:Below w.heap.size w w') (M':Nat→Prop) (h1:∀b,g.M b→M' b) (h2:∀b,M' b→g.M b∨w.heap.size≤b) (h3:∀b,M' b→b<w'.heap.size):St K h ⟨g.ρ,M'⟩ w' where
 blk:=fun i b hb'=>(s.blk i b hb').mono (le_below s hb M' h1 h2) rfl fun n hd hn=>hb.block n (s.sep i n ⟨b,hb',hd⟩ hn).2.2
 inj:=s.inj
 sep:=fun i n ai hn=>by
  obtain⟨a,b,c⟩:=s.sep i n ai hn
  exact⟨a,fun hm=>(h2 n hm).elim b fun h=>Nat.lt_irrefl _ (Nat.lt_of_lt_of_le c h),Nat.lt_of_lt_of_le c hb.size⟩
 low:=h3
 klow:=fun b hk=>Nat.lt_of_lt_of_le (s.klow b hk) hb.size
theorem peek0_alive {h:List ABlk} {v u:AVal} (hp:peek0 h v=some u):∀i∈v.named0,alive h i:=by
 intro i hi
 unfold AVal.named0 at hi
 split at hi
 ·rename_i j
  simp only[List.mem_singleton] at hi
  subst hi
  unfold peek0 at hp
  simp only at hp
  split at hp
  ·rename_i wr t e xs hh
   exact⟨_,getD_some (by simp) hh,by simp⟩
  ·cases hp
 ·simp at hi
theorem peek1_alive {h:List ABlk} {v u:AVal} (hp:peek1 h v=some u):∀i∈v.named1,alive h i:=by
 intro i hi
 have inner:∀(cs us:List AVal),peekL (peek0 h) cs=some us→i∈cs.flatMap AVal.named0→alive h i:=by
  intro cs us hp hi
  obtain⟨c,hc,hi⟩:=List.mem_flatMap.1 hi
  obtain⟨j,hj,rfl⟩:=List.mem_iff_getElem.1 hc
  obtain⟨h1,h2⟩:=peekL_get hp
  have hju:j<us.length:=by omega
  exact peek0_alive (h2 j _ _ (List.getElem?_eq_getElem hj) (List.getElem?_eq_getElem hju)) i hi
 have innerC:∀(cs us:List AVal),peekL (peekC h) cs=some us→i∈cs.flatMap AVal.named0→alive h i:=by
  intro cs us hp hi
  obtain⟨c,hc,hi⟩:=List.mem_flatMap.1 hi
  obtain⟨j,hj,rfl⟩:=List.mem_iff_getElem.1 hc
  obtain⟨h1,h2⟩:=peekL_get hp
  have hju:j<us.length:=by omega
  have hq:=h2 j _ _ (List.getElem?_eq_getElem hj) (List.getElem?_eq_getElem hju)
  unfold peekC at hq
  split at hq
  ·rename_i cs' he
   rw[he] at hi; simp[AVal.named0] at hi
  ·exact peek0_alive hq i hi
 unfold peek1 at hp
 split at hp
 ·rename_i cs
  split at hp
  ·rename_i us hus
   exact inner cs us hus hi
  ·cases hp
 ·rename_i f cs
  split at hp
  ·rename_i us hus
   exact innerC cs us hus hi
  ·cases hp
 ·rename_i v h1 h2
  refine peek0_alive hp i ?_
  unfold AVal.named1 at hi
  split at hi
  ·exact absurd rfl (h1 _)
  ·exact absurd rfl (h2 _ _)
  ·exact hi
theorem peekP_alive {h:List ABlk} {v u:AVal} (hp:peekP h v=some u):∀i∈v.namedP,alive h i:=by
 intro i hi
 unfold peekP at hp
 split at hp
 ·rename_i j off
  simp only[AVal.namedP,List.mem_singleton] at hi
  subst hi
  split at hp
  ·rename_i wr cs hh
   exact⟨_,getD_some (by simp) hh,by simp⟩
  ·cases hp
 ·rename_i v h1
  refine peek1_alive hp i ?_
  unfold AVal.namedP at hi
  split at hi
  ·exact absurd rfl (h1 _ _)
  ·exact hi
structure OpCont {α:Type} (K:Nat→Prop) (P:Program) (o:Oper) (a:Act) (st:AS) (g:Gh) (w:World) (k:AExit→AVal→AS→Option α) (r:α) (next:Act→World→Prop) (Q:Exit→Act→World→Prop):Prop where
 on:∀v st' g' w' x,k .normal v st'=some r→st'.tmps=st.tmps→St K st'.heap g' w'→Le K st.heap g w st'.heap g' w'→Rep st'.heap g' w' v x→next (a.put o.dst x) w'
 pan:∀v u st' g' w' x,k (.pan v) u st'=some r→st'.tmps=st.tmps→St K st'.heap g' w'→Le K st.heap g w st'.heap g' w'→Rep st'.heap g' w' v x→Q (.panic [{ v:=x,recovered:=false }]) a w'
theorem evPure_nat {P:Program} {f:FuncId} {S:Fsp} (hok:FspOk P f S) {α:Type} (dr fz:Bool) (args:List AVal) (h:List ABlk) (k:AExit→AVal→List ABlk→Option α) :
  evPure S dr fz args h k=(evPure S dr fz args h tripE).bind fun p=>k p.1 p.2.1 p.2.2:=by
 unfold evPure
 split
 ·rfl
 ·rename_i aw _
  rw[hok.nat α,hok.nat (AExit × AVal × List ABlk)]
  cases S AOut aw some with
  |none=>rfl
  |some out=>
   simp only[Option.bind_some]
   cases out with
   |ret v=>
    simp only
    split
    ·rfl
    ·cases (dr&&!(args.flatMap AVal.namedP).isEmpty)
     ·simp only[cond_false]
      split<;>rfl
     ·rfl
   |pan v=>
    simp only
    cases (!v.flat2)<;>rfl
theorem pure_calls {P:Program} {K:Nat→Prop} {g:Gh} {w:World} {h:List ABlk} {fid:FuncId} {S:Fsp} (hok:FspOk P fid S) (s:St K h g w) (dr fz:Bool) (L:List AVal) (cargs:Array Value) (hlen:L.length=cargs.size)
  (hargs:∀(j:Nat) c x,L[j]?=some c→cargs[j]?=some x→Rep h g w c x) {x:AExit} {u:AVal} {h1:List ABlk} (hk:evPure S dr fz L h tripE=some (x,u,h1)):Calls P fid cargs w (CvPost K h g w h1 x u):=by
 unfold evPure at hk
 split at hk
 ·cases hk
 ·rename_i aw has
  rw[hok.nat] at hk
  cases hout:S AOut aw some with
  |none=>rw[hout] at hk; cases hk
  |some out=>
   rw[hout] at hk
   simp only[Option.bind_some] at hk
   obtain⟨hpl,hpg⟩:=peekL_get has
   have halive:∀i∈L.flatMap AVal.namedP,alive h i:=fun i hi=>by
    obtain⟨v,hv,hi⟩:=List.mem_flatMap.1 hi
    obtain⟨j,hj,rfl⟩:=List.mem_iff_getElem.1 hv
    exact peekP_alive (hpg j _ _ (List.getElem?_eq_getElem hj) (List.getElem?_eq_getElem (by omega))) i hi
   have hM1:∀b,(g.plus (L.flatMap AVal.namedP)).M b→b<w.heap.size:=fun b hb=>by
    rcases hb with hb|⟨i,hi,hb⟩
    ·exact s.low b hb
    ·exact (s.sep i b (halive i hi) hb).2.2
   have hrep:∀(j:Nat) c x,aw[j]?=some c→cargs[j]?=some x→Rep [] ⟨fun _=>Go.undef,(g.plus (L.flatMap AVal.namedP)).M⟩ w c x:=fun j c x hc hx=>by
    have hj:j<L.length:=by have:=(List.getElem?_eq_some_iff.1 hc).1; omega
    have hcs:=List.getElem?_eq_getElem hj
    exact peekP_rep (g':=⟨fun _=>Go.undef,(g.plus (L.flatMap AVal.namedP)).M⟩) s (hargs j _ x hcs hx) (hpg j _ c hcs hc) (fun b hb=>Or.inl hb) fun i hi b hb=>Or.inr ⟨i,List.mem_flatMap.2 ⟨_,List.getElem_mem hj,hi⟩,hb⟩
   have hcall:=hok.calls aw out hout _ w cargs hM1 (by omega) hrep
   refine hcall.mono fun e w' hp=>?_
   obtain⟨M',m1,m2,m3,hb,hout'⟩:=hp
   cases out with
   |ret v=>
    obtain⟨z,rfl,hx⟩:=hout'
    simp only at hk
    split at hk
    ·rename_i hfl
     cases hk
     have s':=s.below hb g.M (fun _ h=>h) (fun b h=>.inl h) (fun b h=>Nat.lt_of_lt_of_le (s.low b h) hb.size)
     exact⟨_,s',le_below s hb g.M (fun _ h=>h) fun b h=>.inl h,z,rfl,rep_flat2 hx hfl⟩
    ·cases hd:(dr&&!(L.flatMap AVal.namedP).isEmpty)
     ·rw[hd] at hk
      simp only[cond_false] at hk
      split at hk
      ·rename_i h' hkill
       cases hk
       obtain⟨l1,s1⟩:=kill_z s hkill
       have hsame:∀b,(g.plus (dedup (L.flatMap AVal.namedP))).M b↔(g.plus (L.flatMap AVal.namedP)).M b:=fun b=>by
        simp only[Gh.plus,mem_dedup]
       have s2:=s1.below hb M' (fun b h=>m1 b ((hsame b).1 h)) (fun b h=>(m2 b h).imp (hsame b).2 id) m3
       have l2:=le_below s1 hb M' (fun b h=>m1 b ((hsame b).1 h)) (fun b h=>(m2 b h).imp (hsame b).2 id)
       exact⟨_,s2,l1.trans l2,z,rfl,rep_nil hx fun b h=>h⟩
      ·cases hk
     ·rw[hd] at hk; cases hk
   |pan v=>
    obtain⟨z,rfl,hx⟩:=hout'
    simp only at hk
    cases hd:(!v.flat2)
    ·rw[hd] at hk
     simp only[cond_false] at hk
     cases hk
     have hfl:v.flat2=true:=by
      simpa using hd
     have s':=s.below hb g.M (fun _ h=>h) (fun b h=>.inl h) (fun b h=>Nat.lt_of_lt_of_le (s.low b h) hb.size)
     exact⟨_,s',le_below s hb g.M (fun _ h=>h) fun b h=>.inl h,z,rfl,rep_flat2 hx hfl⟩
    ·rw[hd] at hk; cases hk
section
variable {ro:Option Nat} {P:Program} {T:Tab} {env:Env} {o:Oper} {a:Act} {w:World} {α:Type} {r:α} {K:Nat→Prop} {st:AS} {g:Gh} {k:AExit→AVal→AS→Option α} {next:Act→World→Prop} {Q:Exit→Act→World→Prop}
theorem Good.wp (h:Good K P o a st g w (fun v s=>k .normal v s) r) (c:OpCont K P o a st g w k r next Q):o.wpIn (FW ro) 0 P a w next Q:=by
 obtain⟨v,st',g',w',z,h1,h2,h3,h4,h5,h6⟩:=h
 exact wp_value h6 (c.on v st' g' w' z h1 h2 h3 h4 h5)
theorem same_wp (s:St K st.heap g w) (c:OpCont K P o a st g w k r next Q) {v:AVal} {z:Value} (hk:k .normal v st=some r) (hr:Rep st.heap g w v z) (hrun:(execOp a.eval o).run P w=.ok (.value z) w):o.wpIn (FW ro) 0 P a w next Q:=
 wp_value hrun (c.on v st g w z hk rfl s .refl hr)
theorem OpCont.call (c:OpCont K P o a st g w k r next Q) {x:AExit} {u:AVal} {h1:List ABlk} (hk:k x u { st with heap:=h1 }=some r) {e:Ending} {w':World} (h:CvPost K st.heap g w h1 x u e w') :
  (match (generalizing:=false) e,w' with
   |.returned v,w''=>next (a.put o.dst v) w''
   |.panicked chain,w''=>Q (.panic chain) a w''
   |.outgrown,_=>LetsOut Q):=by
 obtain⟨g',h2,h3,h4⟩:=h
 cases x with
 |normal=>
  obtain⟨z,rfl,hz⟩:=h4
  exact c.on u _ g' w' z hk rfl h2 h3 hz
 |pan v=>
  obtain⟨z,rfl,hz⟩:=h4
  exact c.pan v u _ g' w' z hk rfl h2 h3 hz
 |exit i=>exact h4.elim
 |ret=>exact h4.elim
theorem callV_wp (c:OpCont K P o a st g w k r next Q) (f:Operand) (args:Array Operand) (ts:Array TypeId) (ho:o.op=.call { callee:=.value f,args,argTypes:=ts }) {x:AExit} {u:AVal} {h1:List ABlk}
  (hk:k x u { st with heap:=h1 }=some r) (h:CallV P (a.eval f) (args.map a.eval) w (CvPost K st.heap g w h1 x u)):o.wpIn (FW ro) 0 P a w next Q:=by
 refine⟨fun _ _=>trivial,?_⟩
 rcases h with ⟨fid,caps,hfv,hen,hc⟩|⟨l,fid,tmps,aw,bo,hfv,hy,hc⟩|⟨fid,caps,v,hfv,_,hen,hc⟩
 ·have hrun:(execOp a.eval o).run P w=.ok (.enter fid (args.map a.eval++caps)) w:=by
   simp[execOp,ho,resolve,hfv,Deferred.ofValue,invoke,hen]
  rw[semAt_of hrun (fun d w' e=>by cases e) (fun d c w' _ e=>by cases e),Oper.uponIn_enter]
  exact⟨fun h=>by simp[FW] at h,(callsIn_of hc).mono fun e w' hp=>c.call hk hp⟩
 ·have hrun:(execOp a.eval o).run P w=.ok (.round l fid tmps aw bo) w:=by
   simp[execOp,ho,resolve,hfv,Deferred.ofValue,invoke,hy]
  rw[semAt_of hrun (fun d w' e=>by cases e) (fun d c w' _ e=>by cases e),Oper.uponIn_round]
  exact⟨fun h=>by simp[FW] at h,RoundIn.mono (F:=FW ro) hc fun e w' hp=>c.call hk hp⟩
 ·have hrun:(execOp a.eval o).run P w=.ok (.value v) w:=by
   simp[execOp,ho,resolve,hfv,Deferred.ofValue,invoke,hen]
  exact (wp_value (P:=P) (o:=o) hrun (c.call hk hc)).2
theorem args_rep (htr:TRep st.heap g w st.tmps a.tmps) (args:Array Operand):(args.toList.map st.ev).length=(args.map a.eval).size∧∀(j:Nat) c x,(args.toList.map st.ev)[j]?=some c→(args.map a.eval)[j]?=some x→Rep st.heap g w c x:=
 ⟨by simp,fun j c x hc hx=>ops_rep htr args.toList j c x hc (by simpa using hx)⟩
theorem yld_wp (hE:EnvOk P env) (s:St K st.heap g w) (htr:TRep st.heap g w st.tmps a.tmps) (f:Operand) (args:Array Operand) (ts:Array TypeId) (ho:o.op=.call { callee:=.value f,args,argTypes:=ts })
  (v:AVal) (hf:st.ev f=v) (hk:env.cv α v (args.toList.map st.ev) st.heap (fun x v h=>k x v { st with heap:=h })=some r) (c:OpCont K P o a st g w k r next Q):o.wpIn (FW ro) 0 P a w next Q:=by
 rw[hE.cv.nat] at hk
 cases hq:env.cv _ v (args.toList.map st.ev) st.heap tripE with
 |none=>rw[hq] at hk; cases hk
 |some p=>
  obtain⟨x,u,h1⟩:=p
  rw[hq] at hk
  obtain⟨e1,e2⟩:=args_rep htr args
  have hv:=htr.ev f
  rw[hf] at hv
  exact callV_wp c f args ts ho hk (hE.cv.ok v _ _ x u h1 hq K g w (a.eval f) _ s hv e1 e2)
theorem call_wp (hE:EnvOk P env) (s:St K st.heap g w) (htr:TRep st.heap g w st.tmps a.tmps) (dr:Bool) (f:Operand) (args:Array Operand) (ts:Array TypeId) (ho:o.op=.call { callee:=.value f,args,argTypes:=ts })
  (fid:FuncId) (caps:List AVal) (hf:st.ev f=.fn fid caps) (hk:evCall env dr fid caps (args.toList.map st.ev) st.heap (fun x v h=>k x v { st with heap:=h })=some r) (c:OpCont K P o a st g w k r next Q):o.wpIn (FW ro) 0 P a w next Q:=by
 unfold evCall at hk
 split at hk
 ·cases hd:(dr&&!env.few)
  ·rw[hd] at hk; exact yld_wp hE s htr f args ts ho _ hf hk c
  ·rw[hd] at hk; cases hk
 ·rename_i S hS
  have hok:=hE.fs fid S hS
  cases hin:(!dr&&env.inn fid)
  case true=>rw[hin] at hk; exact yld_wp hE s htr f args ts ho _ hf hk c
  rw[hin,cond_false] at hk
  rw[evPure_nat hok] at hk
  cases hq:evPure S dr env.frz (args.toList.map st.ev++caps) st.heap tripE with
  |none=>rw[hq] at hk; cases hk
  |some p=>
   obtain⟨x,u,h1⟩:=p
   rw[hq] at hk
   have hfr:=htr.ev f
   rw[hf] at hfr
   obtain⟨carr,hfv,hcl,hcr⟩:∃arr,a.eval f=.func (.func fid) #[] arr∧caps.length=arr.size∧∀(j:Nat) c x,caps[j]?=some c→arr[j]?=some x→Rep st.heap g w c x:=by
    generalize a.eval f=q at hfr
    cases hfr with|fn _ _ arr a1 a2=>exact⟨arr,rfl,a1,a2⟩
   obtain⟨e1,e2⟩:=args_rep htr args
   refine callV_wp c f args ts ho hk (.inl ⟨fid,carr,hfv,fun w=>hok.enter _ w,pure_calls hok s dr _ _ _ (by rw[List.length_append,Array.size_append,e1,hcl]) (fun j c x hc hx=>?_) hq⟩)
   rcases Nat.lt_or_ge j (args.toList.map st.ev).length with hj|hj
   ·rw[List.getElem?_append_left hj] at hc
    rw[Array.getElem?_append_left (by rw[←e1]; exact hj)] at hx
    exact e2 j c x hc hx
   ·rw[List.getElem?_append_right hj] at hc
    rw[Array.getElem?_append_right (by rw[←e1]; exact hj),←e1] at hx
    exact hcr _ c x hc hx
end
end Go.Proofs.YtpgfncncgjihpaaGreat
