/- Parts of the proof, in build order. -/
import Derived.Test.YtenolfpkkgcgcaaGreatM10
namespace Go.Proofs.YtenolfpkkgcgcaaGreat
open Go.RowKit
theorem rns_gen {t el:Int} (I:PsI→Prop) (n:Nat) (hl:∀s,I s→s.1.length=n) (hf:∀s f,I s→I (s.1,s.2.1,f)) (hp:∀a c (s s':PsI),a<c→c<n→I s→pcP t el a c s=some s'→I s'):∀(m:Nat) {s s':PsI},I s→rnsP t el m s=some s'→I s'
 |0,s,s',hs,h=>by cases h; exact hs
 |m+1,s,s',hs,h=>by
  rw[rnsP] at h
  cases hr:rdP t el s with
  |none=>rw[hr] at h; cases h
  |some s1=>
   rw[hr] at h
   simp only at h
   have hv:I s1:=by
    unfold rdP at hr
    rw[hl _ hs] at hr
    refine foldO_inv (step:=rwP t el n) (inv:=fun _ s=>I s) (n:=n) (fun a u u' ha hu hst=>?_) n 0 (s.1,s.2.1,false) s1 (by omega) (hf _ _ hs) hr
    unfold rwP at hst
    exact (foldO_inv (step:=pcP t el a) (inv:=fun c (s:PsI)=>a<c∧I s) (n:=n) (fun c v v' hc hv hst=>⟨by omega,hp a c v v' hv.1 hc hv.2 hst⟩) (n-(a+1)) (a+1) u u' (by omega) ⟨by omega,hu⟩ hst).2
   cases hm:s1.2.2
   ·rw[hm] at h; cases h; exact hv
   ·rw[hm] at h; exact rns_gen I n hl hf hp m hv h
theorem gl_at {sl bd:Int→Int→Int} {st:Nat→Int}:∀(k m:Nat) (S S':List BdI),m+k=S.length→foldO (glP sl bd st) k m S=some S'→S'.length=S.length∧∀j,(j<m→S'.getD j bdD=S.getD j bdD)∧(m≤j→j<S.length→glB sl bd (st j) (S.getD j bdD)=some (S'.getD j bdD))
 |0,m,S,S',hm,h=>by cases h; exact⟨rfl,fun j=>⟨fun _=>rfl,fun h1 h2=>by omega⟩⟩
 |k+1,m,S,S',hm,h=>by
  rw[foldO] at h
  unfold glP at h
  cases hb:glB sl bd (st m) (S.getD m bdD) with
  |none=>rw[hb] at h; cases h
  |some b=>
   rw[hb] at h
   simp only at h
   obtain⟨e,hj⟩:=gl_at k (m+1) (S.set m b) S' (by rw[List.length_set]; omega) h
   rw[List.length_set] at e
   refine⟨e,fun j=>⟨fun h1=>?_,fun h1 h2=>?_⟩⟩
   ·rw[(hj j).1 (by omega),getD_set,if_neg (by omega)]
   ·by_cases hjm:j=m
    ·subst hjm
     rw[hb,(hj j).1 (by omega),getD_set,if_pos ⟨rfl,by omega⟩]
    ·have:=(hj j).2 (by omega) (by rw[List.length_set]; exact h2)
     rw[getD_set,if_neg (by omega)] at this
     exact this
def hitB (H:List HtI) (k:Nat):Bool:=H.any fun x=>x.2.1==(k:Int) || x.2.2.1==(k:Int)
structure PsH (t:Int) (S1:List BdI) (s:PsI):Prop where
 len:s.1.length=S1.length
 hits:∀x∈s.2.1,x.1=t∧0≤x.2.1∧x.2.1<x.2.2.1∧x.2.2.1<(S1.length:Int)
 at':∀k,hitB s.2.1 k=false→s.1.getD k bdD=S1.getD k bdD
theorem hit_app (A B:List HtI) (k:Nat):hitB (A++B) k=(hitB A k || hitB B k):=by unfold hitB; rw[List.any_append]
theorem tk_alone {sl bd:Int→Int→Int} {st:Nat→Int} {t el:Int} {l:List BdI} {p:List BdI × List HtI} (h:tkP sl bd st t el l=some p) :
  (∀x∈p.2,x.1=t∧0≤x.2.1∧x.2.1<x.2.2.1∧x.2.2.1<(l.length:Int))∧∀k,k<l.length→hitB p.2 k=false→∃b',glB sl bd (st k) (l.getD k bdD)=some b'∧p.1.getD k bdD=gnB b':=by
 unfold tkP glL at h
 cases h1:foldO (glP sl bd st) l.length 0 l with
 |none=>rw[h1] at h; cases h
 |some S1=>
  rw[h1] at h
  simp only at h
  obtain⟨e1,hg⟩:=gl_at l.length 0 l S1 (by omega) h1
  cases h2:rnsP t el 8 (S1,[],true) with
  |none=>rw[h2] at h; cases h
  |some s=>
   rw[h2] at h
   cases h
   have hv:PsH t S1 s:=rns_gen (PsH t S1) S1.length (fun s h=>h.len) (fun s f h=>⟨h.len,h.hits,h.at'⟩) (fun a c s s' hac hc hs hst=>by
    rcases pc_cases hst with rfl|⟨q1,q2,rfl⟩
    ·exact hs
    ·refine⟨by simp only[List.length_set]; exact hs.len,fun x hx=>?_,fun k hk=>?_⟩
     ·rcases List.mem_append.1 hx with hx|hx
      ·exact hs.hits x hx
      ·rw[List.mem_singleton.1 hx]
       exact⟨rfl,by show (0:Int)≤a; omega,by show (a:Int)<c; omega,by show (c:Int)<S1.length; omega⟩
     ·rw[hit_app,Bool.or_eq_false_iff] at hk
      obtain⟨k1,k2⟩:=hk
      have k3:¬(a=k∨c=k):=fun hh=>by
       unfold hitB at k2
       rw[List.any_cons,Bool.or_eq_false_iff,Bool.or_eq_false_iff] at k2
       have ka:=k2.1.1
       have kc:=k2.1.2
       rcases hh with rfl|rfl
       ·simp at ka
       ·simp at kc
      have ha:a≠k:=fun e=>k3 (.inl e)
      have hcq:c≠k:=fun e=>k3 (.inr e)
      show ((s.1.set a _).set c _).getD k bdD=_
      rw[getD_set,if_neg fun q=>hcq q.1,getD_set,if_neg fun q=>ha q.1]
      exact hs.at' k k1) 8 (s:=(S1,[],true)) ⟨rfl,fun x hx=>(by cases hx),fun _ _=>rfl⟩ h2
   refine⟨fun x hx=>?_,fun k hk hh=>?_⟩
   ·have:=hv.hits x hx
    rw[e1] at this
    exact this
   ·refine⟨S1.getD k bdD,(hg k).2 (by omega) hk,?_⟩
    show (s.1.map gnB).getD k bdD=_
    rw[getD_gn,hv.at' k hh]
def risT (H:List HtI):Prop:=∀i j,i<j→j<H.length→(H.getD i (0,0,0,())).1≤(H.getD j (0,0,0,())).1
theorem getD_app {X:Type} (A B:List X) (d:X) (i:Nat):(A++B).getD i d=if i<A.length then A.getD i d else B.getD (i-A.length) d:=by
 rw[List.getD_eq_getElem?_getD,List.getElem?_append]
 split<;>rw[List.getD_eq_getElem?_getD]
theorem mem_getD {X:Type} (A:List X) (d:X) {i:Nat} (h:i<A.length):A.getD i d∈A:=by
 rw[List.getD_eq_getElem?_getD,List.getElem?_eq_getElem h]
 exact List.getElem_mem h
structure HtsI (n:Nat) (t:Int) (H:List HtI):Prop where
 at':∀x∈H,0≤x.1∧x.1<t∧0≤x.2.1∧x.2.1<x.2.2.1∧x.2.2.1<(n:Int)
 ris:risT H
theorem hts_app {n:Nat} {t:Int} {H B:List HtI} (h:HtsI n t H) (h0:0≤t) (hB:∀x∈B,x.1=t∧0≤x.2.1∧x.2.1<x.2.2.1∧x.2.2.1<(n:Int)):HtsI n (t+1) (H++B):=by
 refine⟨fun x hx=>?_,fun i j hij hj=>?_⟩
 ·rcases List.mem_append.1 hx with hx|hx
  ·obtain⟨a,b,c⟩:=h.at' x hx
   exact⟨a,by omega,c⟩
  ·obtain⟨a,c⟩:=hB x hx
   exact⟨by omega,by omega,c⟩
 ·rw[List.length_append] at hj
  rw[getD_app,getD_app]
  by_cases h1:j<H.length
  ·rw[if_pos (by omega),if_pos h1]; exact h.ris i j hij h1
  ·rw[if_neg h1]
   have e:=(hB _ (mem_getD B (0,0,0,()) (show j-H.length<B.length by omega))).1
   by_cases h2:i<H.length
   ·rw[if_pos h2]
    have:=(h.at' _ (mem_getD H (0,0,0,()) h2)).2.1
    omega
   ·rw[if_neg h2]
    have:=(hB _ (mem_getD B (0,0,0,()) (show i-H.length<B.length by omega))).1
    omega
theorem sh_errA {tk:Int→List BdI→Option (List BdI × List HtI)}:∀(n:Nat) (t:Int) (S:List BdI) (hs:List HtI) {e:Int},shP tk n t S hs=.inl e→e=4∨e=3
 |0,t,S,hs,e,h=>by cases h
 |n+1,t,S,hs,e,h=>by
  rw[shP] at h
  cases ha:S.any mvg
  ·rw[ha] at h; cases h
  ·rw[ha,cond_true] at h
   cases hp:tk t S with
   |none=>rw[hp] at h; cases h; exact .inl rfl
   |some p=>
    rw[hp] at h
    simp only at h
    cases hc:decide ((hs++p.2).length≤4096)
    ·rw[hc] at h; cases h; exact .inr rfl
    ·rw[hc] at h; exact sh_errA n (t+1) p.1 (hs++p.2) h
theorem sh_len {tk:Int→List BdI→Option (List BdI × List HtI)}:∀(n:Nat) (t:Int) (S:List BdI) (hs:List HtI) {p},hs.length≤4096→shP tk n t S hs=.inr p→p.2.2.length≤4096
 |0,t,S,hs,p,hl,h=>by cases h; exact hl
 |n+1,t,S,hs,p,hl,h=>by
  rw[shP] at h
  cases ha:S.any mvg
  ·rw[ha] at h; cases h; exact hl
  ·rw[ha,cond_true] at h
   cases hp:tk t S with
   |none=>rw[hp] at h; cases h
   |some q=>
    rw[hp] at h
    simp only at h
    cases hc:decide ((hs++q.2).length≤4096)
    ·rw[hc] at h; cases h
    ·rw[hc] at h; exact sh_len n (t+1) q.1 (hs++q.2) (of_decide_eq_true hc) h
section
variable (cx cy sd w h:Int) (pb po:List Int) (fl ke sw be we:Int) (b:List BrI) (wh el:Int)
theorem sh_alone:∀(n:Nat) (t:Int) (S:List BdI) (hs:List HtI) {p},0≤t→sceB S=true→HtsI S.length t hs→shP (tkV5 cx cy sd w h pb po fl ke sw be we b wh el) n t S hs=.inr p →
  t≤p.2.1∧p.2.1≤t+n∧p.1.length=S.length∧HtsI S.length p.2.1 p.2.2∧(∀k,hitB hs k=true→hitB p.2.2 k=true) ∧
  ∀k,k<S.length→hitB p.2.2 k=false→calm (S.getD k bdD)=true→alP (slwV cx cy sd w h pb po fl ke sw be we) (bdvV cx cy sd w h pb po fl ke sw be we) (stA wh b (k:Int)) (p.2.1-t).toNat t (S.getD k bdD)=some (p.1.getD k bdD)
 |0,t,S,hs,p,h0,hS,hH,e=>by
  cases e
  exact⟨Int.le_refl _,by show t≤t+_; omega,rfl,hH,fun _ h=>h,fun k hk _ _=>by rw[show ((S,t,hs):List BdI × Int × List HtI).2.1=t from rfl,Int.sub_self]; rfl⟩
 |n+1,t,S,hs,p,h0,hS,hH,e=>by
  rw[shP] at e
  cases ha:S.any mvg
  ·rw[ha] at e
   cases e
   exact⟨Int.le_refl _,by show t≤t+_; omega,rfl,hH,fun _ h=>h,fun k hk _ _=>by rw[show ((S,t,hs):List BdI × Int × List HtI).2.1=t from rfl,Int.sub_self]; rfl⟩
  ·rw[ha,cond_true] at e
   cases hp:tkV5 cx cy sd w h pb po fl ke sw be we b wh el t S with
   |none=>rw[hp] at e; cases e
   |some q=>
    rw[hp] at e
    simp only at e
    cases hc:decide ((hs++q.2).length≤4096)
    ·rw[hc] at e; cases e
    ·rw[hc,cond_true] at e
     have hv:=tk_valid (S':=q.1) (H:=q.2) hS hp
     obtain⟨q1,q2⟩:=tk_alone hp
     have hH':HtsI q.1.length (t+1) (hs++q.2):=by rw[hv.2]; exact hts_app hH h0 q1
     obtain⟨i1,i2,i3,i4,i5,i6⟩:=sh_alone n (t+1) q.1 (hs++q.2) (by omega) hv.1 hH' e
     rw[hv.2] at i3 i4 i6
     refine⟨by omega,by omega,i3,i4,fun k hk=>i5 k (by rw[hit_app,hk]; rfl),fun k hk hn hcm=>?_⟩
     have hq:hitB q.2 k=false:=by
      cases hx:hitB q.2 k
      ·rfl
      ·rw[i5 k (by rw[hit_app,hx,Bool.or_true])] at hn; cases hn
     obtain⟨b',g1,g2⟩:=q2 k hk hq
     have ih:=i6 k hk hn (by rw[g2]; exact gn_calm b')
     rw[show (p.2.1-t).toNat=(p.2.1-(t+1)).toNat+1 by omega,alP]
     have g1':glB (slwV cx cy sd w h pb po fl ke sw be we) (bdvV cx cy sd w h pb po fl ke sw be we) (stA wh b (k:Int) t) (S.getD k bdD)=some b':=g1
     rw[g1']
     simp only
     rw[←g2]
     exact ih
end
abbrev hzD:HtI:=(0,0,0,())
abbrev SH:=Int × List Bool × Unit
def ahS {α:Type} (X:HtI) (x:SH):Option (LRes SH α):=
 if 0≤X.2.1∧X.2.1<(x.2.1.length:Int) then
  if 0≤X.2.2.1∧X.2.2.1<((x.2.1.set X.2.1.toNat true).length:Int) then some (.cont (IntKind.i64.wrap (x.1+1),(x.2.1.set X.2.1.toNat true).set X.2.2.1.toNat true,())) else none
 else none
/-! Who has been hit. -/
def hA (H:List HtI) (n:Nat):Nat→List Bool
 |0=>List.replicate n false
 |i+1=>((hA H n i).set (H.getD i hzD).2.1.toNat true).set (H.getD i hzD).2.2.1.toNat true
theorem hA_len (H:List HtI) (n:Nat):∀i,(hA H n i).length=n
 |0=>List.length_replicate
 |i+1=>by rw[hA,List.length_set,List.length_set]; exact hA_len H n i
theorem hA_get {H:List HtI} {n:Nat} {T:Int} (hH:HtsI n T H):∀i,i≤H.length→∀k,k<n→(hA H n i).getD k false=hitB (H.take i) k
 |0,_,k,hk=>by
  rw[hA,List.getD_eq_getElem?_getD,List.getElem?_replicate,if_pos hk]; rfl
 |i+1,hi,k,hk=>by
  have ih:=hA_get hH i (by omega) k hk
  have q:=hH.at' _ (mem_getD H hzD (show i<H.length by omega))
  have e:H.take (i+1)=H.take i++[H.getD i hzD]:=by
   rw[List.take_add_one,List.getD_eq_getElem?_getD,List.getElem?_eq_getElem (show i<H.length by omega)]; rfl
  rw[hA,e,hit_app,←ih,getD_set,getD_set,List.length_set,hA_len]
  show _=((hA H n i).getD k false || (((H.getD i hzD).2.1==(k:Int) || (H.getD i hzD).2.2.1==(k:Int)) || false))
  by_cases h2:(H.getD i hzD).2.2.1.toNat=k
  ·rw[if_pos ⟨h2,by omega⟩,show ((H.getD i hzD).2.2.1==(k:Int))=true from by rw[beq_iff_eq]; omega]
   simp
  ·rw[if_neg fun q=>h2 q.1,show ((H.getD i hzD).2.2.1==(k:Int))=false from by rw[beq_eq_false_iff_ne]; omega]
   by_cases h1:(H.getD i hzD).2.1.toNat=k
   ·rw[if_pos ⟨h1,by omega⟩,show ((H.getD i hzD).2.1==(k:Int))=true from by rw[beq_iff_eq]; omega]
    simp
   ·rw[if_neg fun q=>h1 q.1,show ((H.getD i hzD).2.1==(k:Int))=false from by rw[beq_eq_false_iff_ne]; omega]
    simp
theorem lgone_text (N n0:Nat) (α:Type) (t n x y u v s:Int) (o:Bool) (k:AOut→Option α):evFn real tab ((twY fsC4 spG).env real tab N (n0+8)) N Tryz.f21 α [.agg [.int .i64 t,.int .i64 n,.int .i64 x,.int .i64 y,.int .i64 u,.int .i64 v,.int .i64 s,.bool o]] k =
 bif !bodB t n x y u v s then k (.ret (.tup [.bool false,.int .i64 2])) else bif rgB x 6553600000 then k (.ret (.tup [.bool (gonB x y),.int .i64 0])) else none:=by kernel_rfl
def lgoneS:Fsp:=fun _ args k=>match args with
 | [.agg [.int .i64 t,.int .i64 n,.int .i64 x,.int .i64 y,.int .i64 u,.int .i64 v,.int .i64 s,.bool _]]=>k (.ret (.tup [.bool (bodB t n x y u v s&&gonB x y),.int .i64 (bif bodB t n x y u v s then 0 else 2)]))
 |_=>none
theorem lgoneS_ok:FspOk Tryz.prog 21 lgoneS:=tower_Y fsC4_ok spG_ok ⟨Tryz.func21,fun _ _=>by kernel_rfl⟩ (by intro α args k; unfold lgoneS; split<;>rfl) fun args out hSm hEq=>by
 unfold lgoneS at hEq
 split at hEq
 ·rename_i t n x y u v s o
  refine⟨8,8,(lgone_text 8 0 AOut t n x y u v s o some).trans (Eq.trans ?_ hEq)⟩
  cases hb:bodB t n x y u v s
  ·rfl
  ·rw[show rgB x 6553600000=true from rgB_iff.2 (bod_is.1 hb).x]; rfl
 ·cases hEq
end Go.Proofs.YtenolfpkkgcgcaaGreat
