/- Parts of the proof, in build order. -/
import Derived.Test.YtpgfncncgjihpaaGreatM9
import Derived.Test.YtpgfncncgjihpaaGreatM8
namespace Go.Proofs.YtpgfncncgjihpaaGreat
open Go.RowKit
def cstlS:Fsp:=fun _ args k=>match args with
 | [.ro (.recd (.cons (.recd (.cons (.int .i64) (.cons (.int .i64) (.cons (.recd (.cons (.recd (.cons (.int .i64) (.cons (.int .i64) .nil))) (.cons (.recd (.cons (.int .i64) (.cons (.int .i64) .nil))) (.cons (.int .i64) .nil)))) (.cons .bool .nil))))) .nil)) l]=>bif decide (List.length (α:=Bd1) l≤20) then k (b1 (!(List.any (List.map (α:=Bd1) f1 l) mvg))) else none
 |_=>none
theorem cstl_text (N n0:Nat) (α:Type) (l:List Bd1) (k:AOut→Option α):evFn real tab ((twY fsC3 spG).env real tab N (n0+8)) N Tryz.f139 α [.ro (.recd (.cons (.recd (.cons (.int .i64) (.cons (.int .i64) (.cons (.recd (.cons (.recd (.cons (.int .i64) (.cons (.int .i64) .nil))) (.cons (.recd (.cons (.int .i64) (.cons (.int .i64) .nil))) (.cons (.int .i64) .nil)))) (.cons .bool .nil))))) .nil)) l] k =
 afterL (iterL N (csG l fun i=>k (b1 (!decide (i≥0)))) (0,())) fun id _=>if id=0 then k (b1 (!decide ((-1:Int)≥0))) else none:=by kernel_rfl
theorem w1f1 (l:List Bd1):(l.map f1).map w1=l:=by
 rw[List.map_map,show (w1 ∘ f1:Bd1→Bd1)=id from rfl,List.map_id]
theorem cstlS_ok:FspOk Tryz.prog 139 cstlS:=tower_Y fsC3_ok spG_ok ⟨Tryz.func139,fun _ _=>by kernel_rfl⟩ (by intro α args k; unfold cstlS; split<;>simp only[cond_bind,Option.bind_some,Option.bind_none]) fun args out hs h=>by
 unfold cstlS at h
 split at h
 ·rename_i l
  cases hl:decide (List.length (α:=Bd1) l≤20)
  ·rw[hl] at h; cases h
  ·rw[hl,cond_true] at h
   have h20:(List.map (α:=Bd1) f1 l).length≤20:=Nat.le_trans (Nat.le_of_eq (List.length_map _)) (of_decide_eq_true hl)
   refine⟨(List.map (α:=Bd1) f1 l).length+1,8,(cstl_text _ 0 AOut l some).trans (Eq.trans ?_ h)⟩
   exact ((congrArg (fun q:List Bd1=>afterL (iterL ((List.map (α:=Bd1) f1 l).length+1) (csG q fun i=>some (b1 !decide (i≥0))) (0,())) fun id _=>if id=0 then some (b1 !decide ((-1:Int)≥0)) else none) (w1f1 l)).symm).trans (cs_any (List.map (α:=Bd1) f1 l) h20 fun b=>some (b1 b))
 ·cases h
noncomputable def fsC4:FuncId→Option Fsp:=fun g=>
 if g=139 then some cstlS else
 fsC3 g
theorem fsC4_ok:FsOk fsC4:=
 fs_cons cstlS_ok <|
 fsC3_ok
abbrev bdyS:Sh:=(.recd (.cons (.int .i64) (.cons (.int .i64) (.cons (.recd (.cons (.recd (.cons (.int .i64) (.cons (.int .i64) .nil))) (.cons (.recd (.cons (.int .i64) (.cons (.int .i64) .nil))) (.cons (.int .i64) .nil)))) (.cons .bool .nil)))))
abbrev hitS:Sh:=.recd (.cons (.int .i64) (.cons (.int .i64) (.cons (.int .i64) .nil)))
abbrev shE (e:Int):AOut:=.ret (.tup [.ro bdyS ([]:List BdI),.int .i64 0,.nils,.int .i64 e])
abbrev StS:=List Bd1 × Int × Int × List (Int × Int × Int × Unit) × Unit
section
variable {α:Type} (cx cy sd w h:Int) (pb po:List Int) (fl ke sw be we:Int) (b:List BrI) (wh el t:Int)
noncomputable def stkC (N:Nat) (S:List Bd1) (R:Option α) (K:List Bd1→List HtI→Option α):Option α:=
 afterL (iterL N (gdF cx cy sd w h pb po fl ke sw be we b wh t (S.length:Int) R) (S,0,())) fun id y=>if id=0 then
  afterL (iterL N (rsF' N R) (y.1,0,cx,cy,sd,w,h,pb,po,fl,ke,sw,be,we,b,wh,el,t,[],())) fun id y=>if id=0 then
   afterL (iterL N (goF (y.qS.length:Int)) (y.qS,0,())) fun id z=>if id=2 then K z.1 y.qh else none
  else none
 else none
noncomputable def shF (N:Nat) (m:Int) (k:AOut→Option α) (x:StS):Option (LRes StS α):=
 bif decide (x.2.1<m) then
  bif decide (x.1.length≤20) then bif !!(x.1.map f1).any mvg then
   stkC cx cy sd w h pb po fl ke sw be we b wh el x.2.1 N x.1 (finL (σ:=StS) (k (shE 4))) fun z hh=>
    if (x.2.2.2.1.length+hh.length)*24≤room then
     bif decide (((x.2.2.2.1++hh).length:Int)>4096) then finL (k (shE 3))
     else some (.cont (z,IntKind.i64.wrap (x.2.1+1),IntKind.i64.wrap (x.2.2.1+1),x.2.2.2.1++hh,()))
    else none
  else some (.brk 0 (x.1,x.2.1,x.2.2.1,x.2.2.2.1,()))
  else none
 else some (.brk 0 (x.1,x.2.1,x.2.2.1,x.2.2.2.1,()))
noncomputable def shotT (N:Nat) (l:List BdI) (k:AOut→Option α):Option α:=
 afterL (iterL N (csF l) ([],0,())) fun id y=>if id=0 then
  afterL (iterL N (shF cx cy sd w h pb po fl ke sw be we b wh el N t k) (y.1,0,0,[],())) fun id z=>if id=0 then
   bif shortB z.1 then k (.ret (.tup [.ro bdyS (z.1.map f1),.int .i64 z.2.2.1,.ro hitS z.2.2.2.1,.int .i64 0])) else none
  else none
 else none
end
set_option maxRecDepth 100000 in
theorem cshot_text (N n0:Nat) (α:Type) (cx cy sd w h:Int) (pb po:List Int) (fl ke sw be we:Int) (l:List BdI) (b:List BrI) (wh el t:Int) (k:AOut→Option α):evFn real tab ((twX fsC4 spG).env real tab N (n0+14)) N Tryz.f90 α [.agg [.int .i64 cx,.int .i64 cy,.int .i64 sd,.int .i64 w,.int .i64 h,.ro (.int .i64) pb,.ro (.int .i64) po],.agg [.int .i64 fl,.int .i64 ke,.int .i64 sw,.int .i64 be,.int .i64 we],.ro (.recd (.cons (.int .i64) (.cons (.int .i64) (.cons (.recd (.cons (.recd (.cons (.int .i64) (.cons (.int .i64) .nil))) (.cons (.recd (.cons (.int .i64) (.cons (.int .i64) .nil))) (.cons (.int .i64) .nil)))) (.cons .bool .nil))))) l,.ro (.recd (.cons (.int .i64) (.cons (.int .i64) (.cons (.int .i64) .nil)))) b,.int .i64 wh,.int .i64 el,.int .i64 t] k =
 bif er2 (iceB cx cy sd w h pb po)==0 then bif er2 (graB fl ke sw be we)==0 then bif sceE l==0 then bif er2 (brsB b)==0 then bif decide (-1≤wh) then bif decide (wh ≤
 IntKind.i64.wrap ((l.length:Int)-1)) then bif decide (0≤el) then bif !decide (el≤1000) then k (shE 2) else bif decide (0≤t) then bif !decide (t≤6000) then k (shE 2) else
 shotT cx cy sd w h pb po fl ke sw be we b wh el t N l k else k (shE 2) else k (shE 2) else k (shE 2) else k (shE 2) else k (shE 2) else k (shE 2) else k (shE 2) else k (shE 2):=by
 kernel_rfl
section
variable {σ α:Type}
end
section
variable {α:Type}
end
/-! Lists of numbers for which something holds. -/
section
variable {α:Type}
end
/-! Plain numbers. -/
/-! A tick of the reference. -/
end Go.Proofs.YtpgfncncgjihpaaGreat
namespace Go.Proofs.YtpgfncncgjihpaaGreat
section
variable {α:Type}
theorem any_from {σ:Type} {f:σ→Option (LRes σ α)} (st:Nat→σ) (p:Nat→Bool) {R E:Option (LRes σ α)} (hR:∀y,R≠some (.cont y)) (hE:∀y,E≠some (.cont y)) (n:Nat) (h:∀i,i<n→f (st i)=bif p i then R else some (.cont (st (i+1)))) (hend:f (st n)=E) :
  ∀k m,m+k=n→∀N,k<N→iterL N f (st m)=bif (List.range' m k).any p then R else E
 |0,m,hm,N,hN=>by
  cases N with
  |zero=>omega
  |succ N=>
   have:m=n:=by omega
   subst this
   simp only[iterL,hend]
   simp only[List.range'_zero,List.any_nil,cond_false]
 |k+1,m,hm,N,hN=>by
  cases N with
  |zero=>omega
  |succ N=>
   have hf:=h m (by omega)
   have ih:=any_from st p hR hE n h hend k (m+1) (by omega) N (by omega)
   rw[List.range'_succ,List.any_cons]
   cases hp:p m
   ·rw[hp] at hf
    rw[Bool.false_or,←ih]
    conv=>lhs; unfold iterL
    rw[hf]
    rfl
   ·rw[hp] at hf
    simp only[iterL,hf,cond_true,Bool.true_or]
theorem any_loop' {σ:Type} {f:σ→Option (LRes σ α)} {K:Nat→σ→Option α} (st:Nat→σ) (n:Nat) (p:Nat→Bool) {b:Nat} {y:σ} (R:Option α) (h:∀i,i<n→f (st i)=bif p i then finL R else some (.cont (st (i+1)))) (hend:f (st n)=some (.brk b y)) {N:Nat} (hN:n<N):afterL (iterL N f (st 0)) K=bif (List.range n).any p then R else K b y:=by
 rw[any_from st p (fin_not R) (brk_not b y) n h hend n 0 (by omega) N hN,←List.range_eq_range']
 cases (List.range n).any p
 ·rfl
 ·cases R<;>rfl
end
open Go.RowKit
/-! Lists that are the same. -/
/-! still -/
/-! Scene -/
def nmB (a b:BdI):Bool:=a.1==b.1&&a.2.1==b.2.1
def badR (l:List BdI) (i:Nat):Bool:=!bdOk (l.getD i bdD) || (((l.getD i bdD).o&&(!((l.getD i bdD).u==0&&(l.getD i bdD).v==0) || (l.getD i bdD).s != 0)) || (List.range i).any fun k=>nmB (l.getD k bdD) (l.getD i bdD))
theorem badR_is:∀(r pre l:List BdI),l=pre++r→Ck.bodsOk (pre.map bdC) (r.map bdC)=!((List.range r.length).any fun j=>badR l (pre.length+j))
 | [],pre,l,_=>rfl
 |b::r,pre,l,e=>by
  have hb:l.getD pre.length bdD=b:=by rw[e,List.getD_eq_getElem?_getD,List.getElem?_append_right (Nat.le_refl _),Nat.sub_self]; rfl
  have ih:=badR_is r (pre++[b]) l (by rw[e,List.append_assoc]; rfl)
  have h1:(bdC b).bad (pre.map bdC)=badR l pre.length:=by
   have hn:decide ((bdC b).name∈(pre.map bdC).map Ck.Bod.name)=(List.range pre.length).any fun k=>nmB (l.getD k bdD) b:=by
    rw[Bool.eq_iff_iff,decide_eq_true_eq,List.any_eq_true,List.map_map,List.mem_map]
    constructor
    ·rintro⟨c,hc,he⟩
     obtain⟨k,hk,rfl⟩:=List.mem_iff_getElem.1 hc
     refine⟨k,List.mem_range.2 hk,?_⟩
     have:l.getD k bdD=pre[k]:=by rw[e,List.getD_eq_getElem?_getD,List.getElem?_append_left hk,List.getElem?_eq_getElem hk]; rfl
     rw[this]
     have he:(pre[k].1,pre[k].2.1)=(b.1,b.2.1):=he
     simp only[Prod.mk.injEq] at he
     simp only[nmB,he.1,he.2,BEq.rfl,Bool.and_self]
    ·rintro⟨k,hk,he⟩
     have hk:=List.mem_range.1 hk
     have:l.getD k bdD=pre[k]:=by rw[e,List.getD_eq_getElem?_getD,List.getElem?_append_left hk,List.getElem?_eq_getElem hk]; rfl
     rw[this] at he
     simp only[nmB,Bool.and_eq_true,beq_iff_eq] at he
     exact⟨pre[k],List.getElem_mem hk,Prod.ext he.1 he.2⟩
   show (!bdOk b || (decide ((bdC b).name∈(pre.map bdC).map Ck.Bod.name) || (b.o&&(!(b.u==0&&b.v==0) || b.s != 0))))=_
   unfold badR
   rw[hb,hn]
   cases bdOk b<;>cases (b.o&&(!(b.u==0&&b.v==0) || b.s != 0))<;>simp
  rw[List.map_cons,Ck.bodsOk,h1,show pre.map bdC++[bdC b]=(pre++[b]).map bdC by rw[List.map_append]; rfl,ih,List.length_cons,List.range_succ_eq_map,List.any_cons,List.any_map,List.length_append,List.length_singleton]
  have:(fun j=>badR l (pre.length+1+j))=(fun j=>badR l (pre.length+j)) ∘ Nat.succ:=by
   funext j; show badR l (pre.length+1+j)=badR l (pre.length+(j+1)); congr 1; omega
  rw[this,Nat.add_zero,Bool.not_or]
theorem sce_badR (l:List BdI):sceB l=(decide (l.length≤16)&&!((List.range l.length).any (badR l))):=by
 unfold sceB Ck.sceneB
 have:=badR_is l [] l rfl
 rw[List.map_nil] at this
 rw[this,List.length_map]
 congr 3
 funext j
 rw[List.length_nil,Nat.zero_add]
abbrev R4:=Bool × List HtI × Int × List BdI × Unit
section
variable {α:Type} (cx cy sd w h:Int) (pb po:List Int) (fl ke sw be we:Int) (b:List BrI) (wh el t:Int)
end
section
variable {α:Type} (cx cy sd w h:Int) (pb po:List Int) (fl ke sw be we:Int) (b:List BrI) (wh t:Int)
end
abbrev r4 (c:Nat) (s:PsI):R4:=(s.2.2,s.2.1,(c:Int),s.1,())
/-! Even ice, plain. -/
theorem mov_plc {s:St5} (h:mov5 s=true):plcB s.1 s.2.1=true:=(plc_iff ..).2 (mov_iff.1 h).1
structure KpB (a b:BdI):Prop where
 n1:b.1=a.1
 n2:b.2.1=a.2.1
 o:b.o=a.o
 rest:b.o=true→b.u=0∧b.v=0∧b.s=0
structure KpS (l S:List BdI):Prop where
 len:S.length=l.length
 ok:okS S
 kp:∀i,KpB (l.getD i bdD) (S.getD i bdD)
theorem KpS.set {l S:List BdI} (h:KpS l S) {i:Nat} {b:BdI} (hb:bdOk b=true) (hk:KpB (l.getD i bdD) b):KpS l (S.set i b):=by
 refine⟨by rw[List.length_set]; exact h.len,okS_set h.ok hb,fun j=>?_⟩
 rw[getD_set]
 split
 ·rename_i e; rw[←e.1]; exact hk
 ·exact h.kp j
theorem KpS.glide {l S S':List BdI} {sl bd:Int→Int→Int} {st:Nat→Int} {i:Nat} (h:KpS l S) (hs:glP sl bd st i S=some S'):KpS l S':=by
 unfold glP glB at hs
 have hb:=h.ok i
 have hk:=h.kp i
 have same:S.set i (S.getD i bdD)=S'→KpS l S':=fun e=>by rw[←e]; exact h.set hb hk
 cases ho:(S.getD i bdD).o
 ·rw[ho,cond_false] at hs
  cases hr:rstB (S.getD i bdD)
  ·rw[hr,cond_false] at hs
   cases hg:gnS (sl (S.getD i bdD).x (S.getD i bdD).y) (bd (S.getD i bdD).x (S.getD i bdD).y) ((S.getD i bdD).x,(S.getD i bdD).y,(S.getD i bdD).u,(S.getD i bdD).v,(S.getD i bdD).s) (st i) with
   |none=>rw[hg] at hs; cases hs
   |some s=>
    rw[hg] at hs
    cases hs
    refine h.set (mv_ok hb (gnS_mov _ _ _ _ _ (bd_mov hb) hg)) ⟨hk.n1,hk.n2,hk.o,fun e=>?_⟩
    have e':(S.getD i bdD).o=true:=e
    rw[ho] at e'; cases e'
  ·rw[hr,cond_true] at hs; cases hs; exact same rfl
 ·rw[ho,cond_true] at hs; cases hs; exact same rfl
theorem meB_in {p q:BdI} (h:meB p q=true):p.o=false∧q.o=false:=by
 unfold meB mtGo tchB at h
 simp only[Bool.and_eq_true,Bool.not_eq_true'] at h
 exact⟨h.1.1,h.1.2.1⟩
theorem KpS.pair {l:List BdI} {t el:Int} {a c:Nat} {s s':PsI} (h:KpS l s.1) (hs:pcP t el a c s=some s'):KpS l s'.1:=by
 unfold pcP at hs
 cases hm:meB (s.1.getD a bdD) (s.1.getD c bdD)
 ·rw[hm,cond_false] at hs; cases hs; exact h
 ·rw[hm,cond_true] at hs
  cases hf:meF el (s.1.getD a bdD) (s.1.getD c bdD)
  ·rw[hf] at hs; cases hs
  ·rw[hf,cond_true] at hs; cases hs
   unfold meF at hf
   rw[Bool.and_eq_true] at hf
   obtain⟨oa,oc⟩:=meB_in hm
   have ka:=h.kp a
   have kc:=h.kp c
   refine (h.set hf.1 ⟨ka.n1,ka.n2,ka.o,fun e=>?_⟩).set hf.2 ⟨kc.n1,kc.n2,kc.o,fun e=>?_⟩
   ·have e':(s.1.getD a bdD).o=true:=e
    rw[oa] at e'; cases e'
   ·have e':(s.1.getD c bdD).o=true:=e
    rw[oc] at e'; cases e'
theorem rns_keep {t el:Int} (I:List BdI→Prop) (n:Nat) (hl:∀S,I S→S.length=n) (hp:∀a c (s s':PsI),a<c→c<n→I s.1→pcP t el a c s=some s'→I s'.1):∀(m:Nat) {s s':PsI},I s.1→rnsP t el m s=some s'→I s'.1
 |0,s,s',hs,h=>by cases h; exact hs
 |m+1,s,s',hs,h=>by
  rw[rnsP] at h
  cases hr:rdP t el s with
  |none=>rw[hr] at h; cases h
  |some s1=>
   rw[hr] at h
   simp only at h
   have hv:I s1.1:=by
    unfold rdP at hr
    rw[hl _ hs] at hr
    refine foldO_inv (step:=rwP t el n) (inv:=fun _ s=>I s.1) (n:=n) (fun a u u' ha hu hst=>?_) n 0 (s.1,s.2.1,false) s1 (by omega) hs hr
    unfold rwP at hst
    exact (foldO_inv (step:=pcP t el a) (inv:=fun c (s:PsI)=>a<c∧I s.1) (n:=n) (fun c v v' hc hv hst=>⟨by omega,hp a c v v' hv.1 hc hv.2 hst⟩) (n-(a+1)) (a+1) u u' (by omega) ⟨by omega,hu⟩ hst).2
   cases hm:s1.2.2
   ·rw[hm] at h; cases h; exact hv
   ·rw[hm] at h; exact rns_keep I n hl hp m hv h
theorem tk_keep {sl bd:Int→Int→Int} {st:Nat→Int} {t el:Int} {l S':List BdI} {H:List HtI} (I:List BdI→Prop) (hl:∀S,I S→S.length=l.length) (h0:I l) (hg:∀i S S',i<l.length→I S→glP sl bd st i S=some S'→I S')
  (hp:∀a c (s s':PsI),a<c→c<l.length→I s.1→pcP t el a c s=some s'→I s'.1) (h:tkP sl bd st t el l=some (S',H)):∃S2,I S2∧S'=S2.map gnB:=by
 unfold tkP glL at h
 cases h1:foldO (glP sl bd st) l.length 0 l with
 |none=>rw[h1] at h; cases h
 |some S1=>
  rw[h1] at h
  simp only at h
  have i1:I S1:=foldO_inv (step:=glP sl bd st) (inv:=fun _ S=>I S) (n:=l.length) (fun i t t' hin hv hs=>hg i t t' hin hv hs) l.length 0 l S1 (by omega) h0 h1
  cases h2:rnsP t el 8 (S1,[],true) with
  |none=>rw[h2] at h; cases h
  |some s=>
   rw[h2] at h
   simp only[Option.some.injEq,Prod.mk.injEq] at h
   exact⟨s.1,rns_keep I l.length hl hp 8 (s:=(S1,[],true)) i1 h2,h.1.symm⟩
theorem gn_ok {b:BdI} (hb:bdOk b=true):bdOk (gnB b)=true:=by
 unfold gnB
 cases (!b.o&&gonB b.x b.y)
 ·exact hb
 ·obtain⟨h1,h2,a,c,d,e,f⟩:=bdOk_in hb
  exact bod_is.2 ⟨h1,h2,a,c,(by decide:(-65536000:Int)≤0∧(0:Int)≤65536000),(by decide:(-65536000:Int)≤0∧(0:Int)≤65536000),(by decide:(-1000:Int)≤0∧(0:Int)≤1000)⟩
theorem gn_D:gnB bdD=bdD:=by rfl
theorem getD_gn (S:List BdI) (i:Nat):(S.map gnB).getD i bdD=gnB (S.getD i bdD):=by
 rw[List.getD_eq_getElem?_getD,List.getD_eq_getElem?_getD,List.getElem?_map]
 cases S[i]? with
 |none=>exact gn_D.symm
 |some b=>rfl
theorem sce_iff {l:List BdI}:sceB l=true↔l.length≤16∧(∀i<l.length,bdOk (l.getD i bdD)=true∧((l.getD i bdD).o=true→(l.getD i bdD).u=0∧(l.getD i bdD).v=0∧(l.getD i bdD).s=0)∧∀k<i,¬((l.getD k bdD).1=(l.getD i bdD).1∧(l.getD k bdD).2.1=(l.getD i bdD).2.1)):=by
 rw[sce_badR,Bool.and_eq_true,decide_eq_true_eq,Bool.not_eq_true',List.any_eq_false]
 refine and_congr Iff.rfl ⟨fun h i hi=>?_,fun h i hi=>?_⟩
 ·have hb:=h i (List.mem_range.2 hi)
  unfold badR at hb
  simp only[Bool.or_eq_true,not_or,Bool.not_eq_true',Bool.not_eq_false,Bool.and_eq_true,not_and,bne_iff_ne,ne_eq,Classical.not_not,Bool.not_eq_true,List.any_eq_false,List.mem_range] at hb
  refine⟨by simpa using hb.1,fun ho=>?_,fun k hk=>?_⟩
  ·have h2:=hb.2.1 ho
   simp at h2
   exact⟨h2.1.1,h2.1.2,h2.2⟩
  ·have h3:=hb.2.2 k hk
   unfold nmB at h3
   simpa using h3
 ·have hb:=h i (List.mem_range.1 hi)
  unfold badR
  simp only[Bool.or_eq_true,not_or,Bool.not_eq_true',Bool.not_eq_false,Bool.and_eq_true,not_and,bne_iff_ne,ne_eq,Classical.not_not,Bool.not_eq_true,List.any_eq_false,List.mem_range]
  refine⟨by simpa using hb.1,fun ho=>?_,fun k hk=>?_⟩
  ·obtain⟨u,v,s⟩:=hb.2.1 ho
   rw[u,v,s]; simp
  ·have h3:=hb.2.2 k hk
   unfold nmB
   simpa using h3
theorem kp_refl {l:List BdI} (h:sceB l=true):KpS l l:=⟨rfl,okS_of h,fun i=>⟨rfl,rfl,rfl,fun ho=>by
 rcases Nat.lt_or_ge i l.length with hi|hi
 ·exact ((sce_iff.1 h).2 i hi).2.1 ho
 ·rw[List.getD_eq_getElem?_getD,List.getElem?_eq_none hi] at ho; cases ho⟩⟩
theorem tk_valid {sl bd:Int→Int→Int} {st:Nat→Int} {t el:Int} {l S':List BdI} {H:List HtI} (hl:sceB l=true) (h:tkP sl bd st t el l=some (S',H)):sceB S'=true∧S'.length=l.length:=by
 obtain⟨S2,k,rfl⟩:=tk_keep (KpS l) (fun S k=>k.len) (kp_refl hl) (fun i S S' _ k hs=>k.glide hs) (fun a c s s' _ _ k hs=>k.pair hs) h
 have h0:=sce_iff.1 hl
 have hlen:(S2.map gnB).length=l.length:=by rw[List.length_map]; exact k.len
 refine⟨sce_iff.2 ⟨by rw[hlen]; exact h0.1,fun i hi=>?_⟩,hlen⟩
 rw[hlen] at hi
 have nm:∀j,((S2.map gnB).getD j bdD).1=(l.getD j bdD).1∧((S2.map gnB).getD j bdD).2.1=(l.getD j bdD).2.1:=fun j=>by
  rw[getD_gn]
  have kj:=k.kp j
  unfold gnB
  cases (!(S2.getD j bdD).o&&gonB (S2.getD j bdD).x (S2.getD j bdD).y)
  ·exact⟨kj.n1,kj.n2⟩
  ·exact⟨kj.n1,kj.n2⟩
 refine⟨?_,fun ho=>?_,fun q hq=>?_⟩
 ·rw[getD_gn]; exact gn_ok (k.ok i)
 ·rw[getD_gn] at ho ⊢
  have ki:=(k.kp i).rest
  unfold gnB at ho ⊢
  cases hc:(!(S2.getD i bdD).o&&gonB (S2.getD i bdD).x (S2.getD i bdD).y)
  ·rw[hc] at ho; exact ki ho
  ·exact⟨rfl,rfl,rfl⟩
 ·rw[(nm q).1,(nm q).2,(nm i).1,(nm i).2]
  exact (h0.2 i hi).2.2 q hq
/-! Without brakes. -/
theorem tkB_0:tkB 0 0=0:=by decide
theorem cutP_0r (a:Int):cutP a 0=0:=by
 unfold cutP ab
 simp[sg]
theorem cutP_0l (a:Int):cutP 0 a=0:=by
 unfold cutP ab
 simp[sg]
structure SmS (l S:List BdI):Prop where
 len:S.length=l.length
 ok:okS S
 su:smU S l.length=smU l l.length
 sv:smV S l.length=smV l l.length
abbrev ShO:=Int ⊕ (List BdI × Int × List HtI)
noncomputable def shP (tk:Int→List BdI→Option (List BdI × List HtI)):Nat→Int→List BdI→List HtI→ShO
 |0,t,S,hs=>.inr (S,t,hs)
 |n+1,t,S,hs=>bif S.any mvg then
   match tk t S with
   |none=>.inl 4
   |some p=>bif decide ((hs++p.2).length≤4096) then shP tk n (t+1) p.1 (hs++p.2) else .inl 3
  else .inr (S,t,hs)
theorem rns_invB {t el:Int} {n:Nat} (hn:n≤16):∀(m H:Nat) {s s':PsI},PsIs n H s→rnsP t el m s=some s'→∃H',H'≤H+m*256∧PsIs n H' s'
 |0,H,s,s',hs,h=>by cases h; exact⟨H,by omega,hs⟩
 |m+1,H,s,s',hs,h=>by
  rw[rnsP] at h
  have h16:n*n≤256:=Nat.mul_le_mul hn hn
  cases hr:rdP t el s with
  |none=>rw[hr] at h; cases h
  |some s1=>
   rw[hr] at h
   simp only at h
   have hv:=rd_inv hs hr
   cases hm:s1.2.2
   ·rw[hm] at h; cases h; exact⟨_,by omega,hv⟩
   ·rw[hm] at h
    obtain⟨H',h1,h2⟩:=rns_invB hn m _ hv h
    exact⟨H',by omega,h2⟩
theorem tk_hits {sl bd:Int→Int→Int} {st:Nat→Int} {t el:Int} {l:List BdI} {p:List BdI × List HtI} (hs:sceB l=true) (h:tkP sl bd st t el l=some p):p.2.length≤2048:=by
 have hl:=scn_len hs
 have ok:=okS_of hs
 unfold tkP at h
 cases h1:glL sl bd st l with
 |none=>rw[h1] at h; cases h
 |some S1=>
  have hv:S1.length=l.length∧okS S1:=foldO_inv (step:=glP sl bd st) (inv:=fun _ S=>S.length=l.length∧okS S) (n:=l.length) (fun i t t' hin hv hs=>glP_inv hv hs) l.length 0 l S1 (by omega) ⟨rfl,ok⟩ h1
  rw[h1] at h
  simp only at h
  cases h2:rnsP t el 8 (S1,[],true) with
  |none=>rw[h2] at h; cases h
  |some s'=>
   rw[h2] at h
   cases h
   obtain⟨H',hb,hv'⟩:=rns_invB (n:=S1.length) (by omega) 8 0 (s:=(S1,[],true)) ⟨rfl,hv.2,Nat.zero_le _⟩ h2
   have:=hv'.hits
   show s'.2.1.length≤2048
   omega
section
variable {α:Type} (cx cy sd w h:Int) (pb po:List Int) (fl ke sw be we:Int) (b:List BrI) (wh el:Int)
theorem stkC_fin (hi:iceB cx cy sd w h pb po=true) (hg:graB fl ke sw be we=true) (hb:brsB b=true) (he:0≤el∧el≤1000) {l:List BdI} (hs:sceB l=true) {t:Int} (ht:tckB t=true) (R:Option α) (K:List Bd1→List HtI→Option α) {N:Nat} (hN:30≤N) :
  stkC cx cy sd w h pb po fl ke sw be we b wh el t N (l.map w1) R K=match tkP (slwV cx cy sd w h pb po fl ke sw be we) (bdvV cx cy sd w h pb po fl ke sw be we) (stP wh b t) t el l with|some p=>K (p.1.map w1) p.2|none=>R:=by
 have hl:=scn_len hs
 have ok:=okS_of hs
 unfold stkC tkP
 rw[List.length_map]
 refine (gd_loop cx cy sd w h pb po fl ke sw be we b wh t hi hg hb ht R ok hl _ (by omega)).trans ?_
 cases h1:glL (slwV cx cy sd w h pb po fl ke sw be we) (bdvV cx cy sd w h pb po fl ke sw be we) (stP wh b t) l with
 |none=>rfl
 |some S1=>
  have hv:S1.length=l.length∧okS S1:=foldO_inv (step:=glP (slwV cx cy sd w h pb po fl ke sw be we) (bdvV cx cy sd w h pb po fl ke sw be we) (stP wh b t)) (inv:=fun _ S=>S.length=l.length∧okS S) (n:=l.length) (fun i t t' hin hv hs=>glP_inv hv hs) l.length 0 l S1 (by omega) ⟨rfl,ok⟩ h1
  refine (crs_loop R he (n:=S1.length) (by omega) _ (S1.map w1,0,cx,cy,sd,w,h,pb,po,fl,ke,sw,be,we,b,wh,el,t,[],()) ⟨rfl,rfl⟩ (fun j S hh=>rfl) 8 0 0 (S1,[],true) N (by omega) (by omega) ⟨rfl,hv.2,Nat.zero_le _⟩ N (by omega) (by omega)).trans ?_
  simp only
  cases h2:rnsP t el 8 (S1,[],true) with
  |none=>rfl
  |some s'=>
   obtain⟨H',hv'⟩:=rns_inv (n:=S1.length) (by omega) 8 0 (s:=(S1,[],true)) ⟨rfl,hv.2,Nat.zero_le _⟩ h2
   show afterL (iterL N (goF ((s'.1.map w1).length:Int)) (s'.1.map w1,0,())) _=_
   rw[List.length_map]
   exact go_loop hv'.ok (by rw[hv'.len]; omega) _ (by rw[hv'.len]; omega)
theorem f1w1 (l:List BdI):(l.map w1).map f1=l:=by
 rw[List.map_map,show (f1 ∘ w1:BdI→BdI)=id from rfl,List.map_id]
noncomputable abbrev tkV5 (t:Int) (S:List BdI):Option (List BdI × List HtI):=tkP (slwV cx cy sd w h pb po fl ke sw be we) (bdvV cx cy sd w h pb po fl ke sw be we) (stP wh b t) t el S
theorem shot_loop (hi:iceB cx cy sd w h pb po=true) (hg:graB fl ke sw be we=true) (hb:brsB b=true) (he:0≤el∧el≤1000) {m:Int} (hm:m≤6000) (k:AOut→Option α) (K:Nat→StS→Option α) {N:Nat} (hN:30≤N) :
  ∀(n:Nat) (t:Int) (S:List BdI) (hs:List HtI) (M:Nat),0≤t→t+n=m→sceB S=true→hs.length≤4096→n<M →
   afterL (iterL M (shF cx cy sd w h pb po fl ke sw be we b wh el N m k) (S.map w1,t,t,hs,())) K=match shP (tkV5 cx cy sd w h pb po fl ke sw be we b wh el) n t S hs with|.inl e=>k (shE e)|.inr p=>K 0 (p.1.map w1,p.2.1,p.2.1,p.2.2,())
 |0,t,S,hs,M,h0,ht,hS,hh,hM=>by
  obtain⟨M,rfl⟩:∃q,M=q+1:=⟨M-1,by omega⟩
  have e:shF cx cy sd w h pb po fl ke sw be we b wh el N m k (S.map w1,t,t,hs,())=some (.brk 0 (S.map w1,t,t,hs,())):=by
   unfold shF
   rw[show decide (t<m)=false from decide_eq_false (by omega),cond_false]
  rw[iterL,e]
  rfl
 |n+1,t,S,hs,M,h0,ht,hS,hh,hM=>by
  obtain⟨M,rfl⟩:∃q,M=q+1:=⟨M-1,by omega⟩
  have hl:=scn_len hS
  have e:shF cx cy sd w h pb po fl ke sw be we b wh el N m k (S.map w1,t,t,hs,())=bif S.any mvg then (match tkV5 cx cy sd w h pb po fl ke sw be we b wh el t S with|none=>finL (k (shE 4))|some p=>bif decide ((hs++p.2).length≤4096) then some (.cont (p.1.map w1,t+1,t+1,hs++p.2,())) else finL (k (shE 3))) else some (.brk 0 (S.map w1,t,t,hs,())):=by
   unfold shF
   rw[show decide (t<m)=true from decide_eq_true (by omega),cond_true,show decide ((S.map w1).length≤20)=true from decide_eq_true (by rw[List.length_map]; omega),cond_true,f1w1,Bool.not_not]
   cases S.any mvg
   ·rfl
   ·simp only[cond_true]
    refine (stkC_fin cx cy sd w h pb po fl ke sw be we b wh el hi hg hb he hS (t:=t) (by unfold tckB; simp; omega) _ _ hN).trans ?_
    show (match tkV5 cx cy sd w h pb po fl ke sw be we b wh el t S with|some p=>_|none=>_)=_
    cases hp:tkV5 cx cy sd w h pb po fl ke sw be we b wh el t S with
    |none=>rfl
    |some p=>
     have hk:=tk_hits hS hp
     have hroom:room≥1000000:=by decide
     simp only
     rw[if_pos (by omega),i64_in (t+1) (by omega)]
     cases hc:decide ((hs++p.2).length≤4096)
     ·have:=of_decide_eq_false hc
      rw[show decide (((hs++p.2).length:Int)>4096)=true from decide_eq_true (by omega)]
      rfl
     ·have:=of_decide_eq_true hc
      rw[show decide (((hs++p.2).length:Int)>4096)=false from decide_eq_false (by omega)]
      rfl
  rw[iterL,e,shP]
  cases S.any mvg
  ·rfl
  ·simp only[cond_true]
   cases hp:tkV5 cx cy sd w h pb po fl ke sw be we b wh el t S with
   |none=>
    show _=k (shE 4)
    simp only
    generalize k (shE 4)=R
    cases R<;>rfl
   |some p=>
    simp only
    cases hc:decide ((hs++p.2).length≤4096)
    ·simp only[cond_false]
     show _=k (shE 3)
     generalize k (shE 3)=R
     cases R<;>rfl
    ·simp only[cond_true]
     have hv:=tk_valid (S':=p.1) (H:=p.2) hS hp
     exact shot_loop hi hg hb he hm k K hN n (t+1) p.1 (hs++p.2) M (by omega) (by omega) hv.1 (of_decide_eq_true hc) (by omega)
theorem sh_valid:∀(n:Nat) (t:Int) (S:List BdI) (hs:List HtI) {p},sceB S=true→shP (tkV5 cx cy sd w h pb po fl ke sw be we b wh el) n t S hs=.inr p→sceB p.1=true∧p.1.length=S.length
 |0,t,S,hs,p,hS,e=>by cases e; exact⟨hS,rfl⟩
 |n+1,t,S,hs,p,hS,e=>by
  rw[shP] at e
  cases ha:S.any mvg
  ·rw[ha] at e; cases e; exact⟨hS,rfl⟩
  ·rw[ha,cond_true] at e
   cases hp:tkV5 cx cy sd w h pb po fl ke sw be we b wh el t S with
   |none=>rw[hp] at e; cases e
   |some q=>
    rw[hp] at e
    simp only at e
    cases hc:decide ((hs++q.2).length≤4096)
    ·rw[hc] at e; cases e
    ·rw[hc,cond_true] at e
     have hv:=tk_valid (S':=q.1) (H:=q.2) hS hp
     have:=sh_valid n (t+1) q.1 (hs++q.2) hv.1 e
     exact⟨this.1,this.2.trans hv.2⟩
abbrev shG (p:List BdI × Int × List HtI):AOut:=.ret (.tup [.ro bdyS p.1,.int .i64 p.2.1,.ro hitS p.2.2,.int .i64 0])
theorem shotT_fin (hi:iceB cx cy sd w h pb po=true) (hg:graB fl ke sw be we=true) (hb:brsB b=true) (he:0≤el∧el≤1000) {l:List BdI} (hs:sceB l=true) {t:Int} (ht:0≤t∧t≤6000) (k:AOut→Option α) :
  shotT cx cy sd w h pb po fl ke sw be we b wh el t (t.toNat+30) l k=match shP (tkV5 cx cy sd w h pb po fl ke sw be we b wh el) t.toNat 0 l [] with|.inl e=>k (shE e)|.inr p=>k (shG p):=by
 have hl:=scn_len hs
 unfold shotT
 refine (cs_loopN (by omega) _ (by omega)).trans ?_
 rw[if_pos rfl]
 refine (shot_loop cx cy sd w h pb po fl ke sw be we b wh el hi hg hb he (m:=t) ht.2 k _ (by omega) t.toNat 0 l [] (t.toNat+30) (by omega) (by omega) hs (by simp) (by omega)).trans ?_
 cases hp:shP (tkV5 cx cy sd w h pb po fl ke sw be we b wh el) t.toNat 0 l [] with
 |inl e=>rfl
 |inr p=>
  have hv:=sh_valid cx cy sd w h pb po fl ke sw be we b wh el t.toNat 0 l [] hs hp
  simp only
  rw[if_pos trivial,show shortB (p.1.map w1)=true from decide_eq_true (by rw[List.length_map,hv.2]; omega),cond_true]
  exact congrArg (fun q:List BdI=>k (.ret (.tup [.ro bdyS q,.int .i64 p.2.1,.ro hitS p.2.2,.int .i64 0]))) (f1w1 p.1)
end
def cshB (cx cy sd w h:Int) (pb po:List Int) (fl ke sw be we:Int) (l:List BdI) (b:List BrI) (wh el t:Int):Bool:=ctkB cx cy sd w h pb po fl ke sw be we l b wh el t
def cshR (c:Bool) (o:ShO):AOut:=bif c then (match o with|.inr p=>shG p|.inl e=>shE e) else shE 2
theorem cshot_fin (cx cy sd w h:Int) (pb po:List Int) (fl ke sw be we:Int) (l:List BdI) (b:List BrI) (wh el t:Int) (hs:∀qSm∈([.agg [.int .i64 cx,.int .i64 cy,.int .i64 sd,.int .i64 w,.int .i64 h,.ro (.int .i64) pb,.ro (.int .i64) po],.agg [.int .i64 fl,.int .i64 ke,.int .i64 sw,.int .i64 be,.int .i64 we],.ro (.recd (.cons (.int .i64) (.cons (.int .i64) (.cons (.recd (.cons (.recd (.cons (.int .i64) (.cons (.int .i64) .nil))) (.cons (.recd (.cons (.int .i64) (.cons (.int .i64) .nil))) (.cons (.int .i64) .nil)))) (.cons .bool .nil))))) l,.ro (.recd (.cons (.int .i64) (.cons (.int .i64) (.cons (.int .i64) .nil)))) b,.int .i64 wh,.int .i64 el,.int .i64 t]:List AVal),Sm qSm):∃N n,∀α (k:AOut→Option α),evFn real tab ((twX fsC4 spG).env real tab N n) N Tryz.f90 α [.agg [.int .i64 cx,.int .i64 cy,.int .i64 sd,.int .i64 w,.int .i64 h,.ro (.int .i64) pb,.ro (.int .i64) po],.agg [.int .i64 fl,.int .i64 ke,.int .i64 sw,.int .i64 be,.int .i64 we],.ro (.recd (.cons (.int .i64) (.cons (.int .i64) (.cons (.recd (.cons (.recd (.cons (.int .i64) (.cons (.int .i64) .nil))) (.cons (.recd (.cons (.int .i64) (.cons (.int .i64) .nil))) (.cons (.int .i64) .nil)))) (.cons .bool .nil))))) l,.ro (.recd (.cons (.int .i64) (.cons (.int .i64) (.cons (.int .i64) .nil)))) b,.int .i64 wh,.int .i64 el,.int .i64 t] k=k (cshR (cshB cx cy sd w h pb po fl ke sw be we l b wh el t) (shP (tkV5 cx cy sd w h pb po fl ke sw be we b wh el) t.toNat 0 l [])):=by
 refine⟨t.toNat+30,14,fun α k=>(cshot_text (t.toNat+30) 0 α cx cy sd w h pb po fl ke sw be we l b wh el t k).trans ?_⟩
 unfold cshB ctkB cshR
 cases hi:iceB cx cy sd w h pb po
 ·rfl
 cases hg:graB fl ke sw be we
 ·rfl
 cases hs:sceB l
 ·unfold sceE; rw[hs]; rfl
 cases hb:brsB b
 ·unfold sceE; rw[hs]; rfl
 have hl:=scn_len hs
 have ew:IntKind.i64.wrap ((l.length:Int)-1)=(l.length:Int)-1:=i64_in _ (by omega)
 unfold sceE
 rw[hs,ew]
 unfold tckB
 cases h1:decide (-1≤wh)
 ·rfl
 cases h2:decide (wh≤(l.length:Int)-1)
 ·rfl
 cases h3:decide (0≤el)
 ·rfl
 cases h4:decide (el≤1000)
 ·rfl
 cases h5:decide (0≤t)
 ·rfl
 cases h6:decide (t≤6000)
 ·rfl
 refine (shotT_fin cx cy sd w h pb po fl ke sw be we b wh el hi hg hb ⟨of_decide_eq_true h3,of_decide_eq_true h4⟩ hs ⟨of_decide_eq_true h5,of_decide_eq_true h6⟩ k).trans ?_
 show _=k (match shP (tkV5 cx cy sd w h pb po fl ke sw be we b wh el) t.toNat 0 l [] with|.inr p=>shG p|.inl e=>shE e)
 cases shP (tkV5 cx cy sd w h pb po fl ke sw be we b wh el) t.toNat 0 l []<;>rfl
noncomputable def cshotS:Fsp:=fun _ args k=>match args with
 | [.agg [.int .i64 cx,.int .i64 cy,.int .i64 sd,.int .i64 w,.int .i64 h,.ro (.int .i64) pb,.ro (.int .i64) po],.agg [.int .i64 fl,.int .i64 ke,.int .i64 sw,.int .i64 be,.int .i64 we],.ro (.recd (.cons (.int .i64) (.cons (.int .i64) (.cons (.recd (.cons (.recd (.cons (.int .i64) (.cons (.int .i64) .nil))) (.cons (.recd (.cons (.int .i64) (.cons (.int .i64) .nil))) (.cons (.int .i64) .nil)))) (.cons .bool .nil))))) l,.ro (.recd (.cons (.int .i64) (.cons (.int .i64) (.cons (.int .i64) .nil)))) b,.int .i64 wh,.int .i64 el,.int .i64 t]=>k (cshR (cshB cx cy sd w h pb po fl ke sw be we l b wh el t) (shP (tkV5 cx cy sd w h pb po fl ke sw be we b wh el) t.toNat 0 l []))
 |_=>none
theorem cshotS_ok:FspOk Tryz.prog 90 cshotS:=tower_X fsC4_ok spG_ok ⟨Tryz.func90,fun _ _=>by kernel_rfl⟩ (by intro α args k; unfold cshotS; split<;>rfl) fun args out hSm hEq=>by
 unfold cshotS at hEq
 split at hEq
 ·rename_i cx cy sd w h pb po fl ke sw be we l b wh el t
  obtain⟨N,n,e⟩:=cshot_fin cx cy sd w h pb po fl ke sw be we l b wh el t hSm
  exact⟨N,n,(e AOut some).trans hEq⟩
 ·cases hEq
/-! The same without cases. -/
def cshL (c:Bool) (o:ShO):List BdI:=bif c then (match o with|.inr p=>p.1|.inl _=>[]) else []
def cshT (c:Bool) (o:ShO):Int:=bif c then (match o with|.inr p=>p.2.1|.inl _=>0) else 0
def cshH (c:Bool) (o:ShO):List HtI:=bif c then (match o with|.inr p=>p.2.2|.inl _=>[]) else []
def cshZ (c:Bool) (o:ShO):Int:=bif c then (match o with|.inr _=>0|.inl e=>e) else 2
abbrev cshV (c:Bool) (o:ShO):AOut:=.ret (.tup [.ro (.recd (.cons (.int .i64) (.cons (.int .i64) (.cons (.recd (.cons (.recd (.cons (.int .i64) (.cons (.int .i64) .nil))) (.cons (.recd (.cons (.int .i64) (.cons (.int .i64) .nil))) (.cons (.int .i64) .nil)))) (.cons .bool .nil))))) (cshL c o),iN (cshT c o),.ro (.recd (.cons (.int .i64) (.cons (.int .i64) (.cons (.int .i64) .nil)))) (cshH c o),iN (cshZ c o)])
theorem csh_tot (c:Bool) (o:ShO):∃v v',cshV c o=.ret v'∧cshR c o=.ret v∧SimV v v':=by
 cases c
 ·exact⟨_,_,rfl,rfl,simV_tup ⟨SimV.refl _,SimV.refl _,simV_nils _,SimV.refl _,trivial⟩⟩
 ·cases o with
  |inl e=>exact⟨_,_,rfl,rfl,simV_tup ⟨SimV.refl _,SimV.refl _,simV_nils _,SimV.refl _,trivial⟩⟩
  |inr p=>exact⟨_,_,rfl,rfl,SimV.refl _⟩
noncomputable def cshotTS:Fsp:=fun _ args k=>match args with
 | [.agg [.int .i64 cx,.int .i64 cy,.int .i64 sd,.int .i64 w,.int .i64 h,.ro (.int .i64) pb,.ro (.int .i64) po],.agg [.int .i64 fl,.int .i64 ke,.int .i64 sw,.int .i64 be,.int .i64 we],.ro (.recd (.cons (.int .i64) (.cons (.int .i64) (.cons (.recd (.cons (.recd (.cons (.int .i64) (.cons (.int .i64) .nil))) (.cons (.recd (.cons (.int .i64) (.cons (.int .i64) .nil))) (.cons (.int .i64) .nil)))) (.cons .bool .nil))))) l,.ro (.recd (.cons (.int .i64) (.cons (.int .i64) (.cons (.int .i64) .nil)))) b,.int .i64 wh,.int .i64 el,.int .i64 t]=>k (cshV (cshB cx cy sd w h pb po fl ke sw be we l b wh el t) (shP (tkV5 cx cy sd w h pb po fl ke sw be we b wh el) t.toNat 0 l []))
 |_=>none
theorem cshotTS_ok:FspOk Tryz.prog 90 cshotTS:=fsp_sim cshotS_ok (by intro α args k; unfold cshotTS; split<;>rfl) fun args out hq=>by
 unfold cshotTS at hq
 split at hq
 ·rename_i cx cy sd w h pb po fl ke sw be we l b wh el t
  cases hq
  obtain⟨v,v',e1,e2,e3⟩:=csh_tot (cshB cx cy sd w h pb po fl ke sw be we l b wh el t) (shP (tkV5 cx cy sd w h pb po fl ke sw be we b wh el) t.toNat 0 l [])
  refine⟨v,v',e1,?_,e3⟩
  rw[←e2]
  rfl
 ·cases hq
set_option maxRecDepth 100000 in
theorem kvd_text (N n0:Nat) (α:Type) (t n x y u v s:Int) (o:Bool) (k:AOut→Option α):evFn real tab ((twY fsC4 spKt).env real tab N (n0+8)) N Tryz.f100 α [.agg [.int .i64 t,.int .i64 n,.int .i64 x,.int .i64 y,.int .i64 u,.int .i64 v,.int .i64 s,.bool o]] k =
 k (AOut.ret (AVal.bool (sceE [(t,n,((x,y,()),(u,v,()),s,()),o,())]==0))):=by kernel_rfl
set_option maxRecDepth 100000 in
theorem kcc_text (N n0:Nat) (α:Type) (t n x y u v s:Int) (b:List BrI) (p q:Int) (k:AOut→Option α):evFn real tab ((twY fsC4 spKt).env real tab N (n0+8)) N Tryz.f48 α [.agg [.int .i64 t,.int .i64 n,.int .i64 x,.int .i64 y,.int .i64 u,.int .i64 v,.int .i64 s,.ro (.recd (.cons (.int .i64) (.cons (.int .i64) (.cons (.int .i64) .nil)))) b,.int .i64 p,.int .i64 q]] k =
 bif !sceE [(t,n,((x,y,()),(u,v,()),s,()),false,())]==0 then bif !sceE [(t,n,((x,y,()),(u,v,()),s,()),false,())]==0 then k (AOut.ret (AVal.int IntKind.i64
 2)) else bif decide (0≤p) then bif !decide (p≤8192000) then bif !decide (p≤8192000) then k (AOut.ret (AVal.int IntKind.i64 2)) else k (AOut.ret (AVal.int IntKind.i64 0)) else
 bif decide (0≤q) then bif !decide (q≤8192000) then k (AOut.ret (AVal.int IntKind.i64 2)) else k (AOut.ret (AVal.int IntKind.i64 0)) else k (AOut.ret (AVal.int IntKind.i64 2))
 else k (AOut.ret (AVal.int IntKind.i64 2)) else bif u==0&&(v==0&&true) then bif u==0&&(v==0&&true) then k (AOut.ret (AVal.int IntKind.i64 2)) else bif decide (0≤p)
 then bif !decide (p≤8192000) then bif !decide (p≤8192000) then k (AOut.ret (AVal.int IntKind.i64 2)) else k (AOut.ret (AVal.int IntKind.i64 0)) else bif decide (0≤q) then bif
 !decide (q≤8192000) then k (AOut.ret (AVal.int IntKind.i64 2)) else k (AOut.ret (AVal.int IntKind.i64 0)) else k (AOut.ret (AVal.int IntKind.i64 2)) else k (AOut.ret (AVal.int
 IntKind.i64 2)) else bif er2 (brsB b) != 0 then k (AOut.ret (AVal.int IntKind.i64 2)) else bif decide (0≤p) then bif !decide (p≤8192000) then bif !decide (p≤8192000) then k
 (AOut.ret (AVal.int IntKind.i64 2)) else k (AOut.ret (AVal.int IntKind.i64 0)) else bif decide (0≤q) then bif !decide (q≤8192000) then k (AOut.ret (AVal.int IntKind.i64 2)) else
 k (AOut.ret (AVal.int IntKind.i64 0)) else k (AOut.ret (AVal.int IntKind.i64 2)) else k (AOut.ret (AVal.int IntKind.i64 2)):=by kernel_rfl
abbrev cbB (t n x y u v s:Int):BdI:=(t,n,((x,y,()),(u,v,()),s,()),false,())
def ccB (t n x y u v s:Int) (b:List BrI) (p q:Int):Bool:=(sceE [cbB t n x y u v s]==0)&&(!(u==0&&(v==0&&true))&&(brsB b&&((decide (0≤p)&&decide (p≤8192000))&&(decide (0≤q)&&decide (q≤8192000)))))
noncomputable def kvdS:Fsp:=fun _ args k=>match args with
 | [.agg [.int .i64 t,.int .i64 n,.int .i64 x,.int .i64 y,.int .i64 u,.int .i64 v,.int .i64 s,.bool o]]=>k (b1 (sceE [(t,n,((x,y,()),(u,v,()),s,()),o,())]==0))
 |_=>none
theorem kvdS_ok:FspOk Tryz.prog 100 kvdS:=tower_Y fsC4_ok spKt_ok ⟨Tryz.func100,fun _ _=>by kernel_rfl⟩ (by intro α args k; unfold kvdS; split<;>rfl) fun args out hSm hEq=>by
 unfold kvdS at hEq
 split at hEq
 ·rename_i t n x y u v s o
  exact⟨1,8,(kvd_text 1 0 AOut t n x y u v s o some).trans hEq⟩
 ·cases hEq
noncomputable def kccS:Fsp:=fun _ args k=>match args with
 | [.agg [.int .i64 t,.int .i64 n,.int .i64 x,.int .i64 y,.int .i64 u,.int .i64 v,.int .i64 s,.ro (.recd (.cons (.int .i64) (.cons (.int .i64) (.cons (.int .i64) .nil)))) b,.int .i64 p,.int .i64 q]]=>k (.ret (iN (er2 (ccB t n x y u v s b p q))))
 |_=>none
theorem kccS_ok:FspOk Tryz.prog 48 kccS:=tower_Y fsC4_ok spKt_ok ⟨Tryz.func48,fun _ _=>by kernel_rfl⟩ (by intro α args k; unfold kccS; split<;>rfl) fun args out hSm hEq=>by
 unfold kccS at hEq
 split at hEq
 ·rename_i t n x y u v s b p q
  refine⟨1,8,(kcc_text 1 0 AOut t n x y u v s b p q some).trans (Eq.trans ?_ hEq)⟩
  unfold ccB er2
  cases sceE [cbB t n x y u v s]==0<;>cases (u==0&&(v==0&&true))<;>cases brsB b<;>cases decide (0≤p)<;>cases decide (p≤8192000)<;>cases decide (0≤q)<;>cases decide (q≤8192000)<;>rfl
 ·cases hEq
noncomputable def fsEn0:FuncId→Option Fsp:=fun g=>
 if g=48 then some kccS else
 if g=100 then some kvdS else
 if g=85 then some cstillS else
 if g=90 then some cshotTS else
 fsC4 g
theorem fsEn0_ok:FsOk fsEn0:=
 fs_cons kccS_ok <|
 fs_cons kvdS_ok <|
 fs_cons cstillS_ok <|
 fs_cons cshotTS_ok <|
 fsC4_ok
theorem fsp_arg {P:Program} {f:FuncId} {S S':Fsp} (h:FspOk P f S) (hn:∀(α:Type) args (k:AOut→Option α),S' α args k=(S' AOut args some).bind k)
  (hs:∀args out,S' AOut args some=some out→∃args',S AOut args' some=some out∧SimVs args args'):FspOk P f S' where
 enter:=h.enter
 nat:=hn
 calls:=fun args out hout M w cargs hM hl hr=>by
  obtain⟨args',h1,h2⟩:=hs args out hout
  obtain⟨hlen,hat⟩:=simVs_at h2
  refine h.calls args' out h1 M w cargs hM (hlen▸hl) fun j c x hc hx=>?_
  have hj:j<args'.length:=by
   rcases Nat.lt_or_ge j args'.length with h|h
   ·exact h
   ·rw[List.getElem?_eq_none h] at hc; cases hc
  have ha:args[j]?=some args[j]:=List.getElem?_eq_getElem (by omega)
  exact hat j _ c ha hc _ _ _ x (hr j _ x ha hx)
end Go.Proofs.YtpgfncncgjihpaaGreat
