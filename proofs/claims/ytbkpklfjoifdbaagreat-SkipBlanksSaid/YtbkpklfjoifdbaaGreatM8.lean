/- Parts of the proof, in build order. -/
import Derived.Test.YtbkpklfjoifdbaaGreatM7
import Derived.Test.YtbkpklfjoifdbaaGreatM6
namespace Go.Proofs.YtbkpklfjoifdbaaGreat
open Go.RowKit
def opL (r:RvI) (t:Int):List (List Int):=bif t==0 then r.2.1 else r.2.2
def stH (V:RvI→GsI→HpI) (r:RvI) (e l t:Int):List HpI:=(opL r t).map (syH r.1 e (pnL V r e l t 17))
def chO (t:Int) (L:List HpI):HpI:=((chX (opT t) L).1,(chX (opT t) L).2,())
def hvN:Nat→RvI→GsI→HpI
 | 0,r,s=>bif s.2.1 != 0 then (suV (decide (s.2.1 > 0)),suV (decide (s.2.1 > 0)),()) else chO s.2.2.1 (stH (fun _ _=>(0,0,())) r s.1 s.2.1 s.2.2.1)
 | n + 1,r,s=>chO s.2.2.1 (stH (hvN n) r s.1 s.2.1 s.2.2.1)
def hv (r:RvI) (s:GsI):HpI:=hvN s.1.toNat r s
def wvN:Nat→RvI→GsI→MpI→MpI
 | 0,r,s,M=>bif s.2.1 != 0 then M else bif (mpFind GsSh HpSh s M).isSome then M else mpPut GsSh HpSh s (hv r s) M
 | n + 1,r,s,M=>bif (mpFind GsSh HpSh s M).isSome then M else mpPut GsSh HpSh s (hv r s) (pnM (wvN n) r s.1 s.2.1 s.2.2.1 M 17)
def wv (r:RvI) (s:GsI) (M:MpI):MpI:=wvN s.1.toNat r s M
/-! What is asked. -/
def rv1 (L:List (List Int)):Bool:=decide (1≤L.length)&&(decide (L.length≤8)&&L.all fun c=>cntW c&&decide (c.length=17))
def rvB (r:RvI):Bool:=rv1 r.2.1&&(rv1 r.2.2&&(decide (1≤r.1)&&decide (r.1≤1000)))
def stB (s:GsI):Bool:=(decide (0≤s.1)&&decide (s.1≤12))&&((decide (-96≤s.2.1)&&decide (s.2.1≤96))&&hmB s.2.2.1)
def gdB (r:RvI) (M:MpI):Bool:=M.all fun x=>x.2.1==(hv r x.1).1&&x.2.2.1==(hv r x.1).2.1
def hpD (k:Nat) (r:RvI) (s:GsI) (M:MpI):Bool:=rvB r&&(stB s&&(decide (s.1 < (k:Int))&&gdB r M))
theorem gs_eq {a b:GsI} (h:Sh.eqb GsSh a b=true):a=b:=by
 obtain ⟨a1,a2,a3,_⟩:=a
 obtain ⟨b1,b2,b3,_⟩:=b
 have h':((a1==b1)&&((a2==b2)&&((a3==b3)&&true)))=true:=h
 simp only [Bool.and_eq_true,beq_iff_eq] at h'
 obtain ⟨rfl,rfl,rfl,_⟩:=h'
 rfl
theorem gd_find {r:RvI} {M:MpI} (h:gdB r M=true) {s:GsI} {v:HpI} (hf:mpFind GsSh HpSh s M=some v):v=hv r s:=by
 induction M with
 | nil=>cases hf
 | cons p M ih=>
   unfold gdB at h
   rw [List.all_cons,Bool.and_eq_true] at h
   change (bif Sh.eqb GsSh s p.1 then some p.2 else mpFind GsSh HpSh s M)=some v at hf
   cases he:Sh.eqb GsSh s p.1
   ·rw [he] at hf
    exact ih h.2 hf
   ·rw [he] at hf
    cases (show some p.2=some v from hf)
    have e:=gs_eq he
    have h1:=h.1
    simp only [Bool.and_eq_true,beq_iff_eq] at h1
    obtain ⟨s',v1,v2,_⟩:=p
    cases e
    exact Prod.ext h1.1 (Prod.ext h1.2 rfl)
theorem gd_put {r:RvI} {M:MpI} (h:gdB r M=true) (s:GsI):gdB r (mpPut GsSh HpSh s (hv r s) M)=true:=by
 have hs:gdB r [(s,hv r s)]=true:=by
  unfold gdB
  simp
 induction M with
 | nil=>exact hs
 | cons p M ih=>
   unfold gdB at h
   rw [List.all_cons,Bool.and_eq_true] at h
   show gdB r (bif Sh.eqb GsSh s p.1 then (s,hv r s) :: M else p :: mpPut GsSh HpSh s (hv r s) M)=true
   cases he:Sh.eqb GsSh s p.1
   ·show ((p.2.1==(hv r p.1).1&&p.2.2.1==(hv r p.1).2.1)&&gdB r (mpPut GsSh HpSh s (hv r s) M))=true
    rw [h.1,ih h.2]; rfl
   ·show (((hv r s).1==(hv r s).1&&(hv r s).2.1==(hv r s).2.1)&&gdB r M)=true
    rw [beq_self_eq_true,beq_self_eq_true,show gdB r M=true from h.2]; rfl
theorem gd_fold {r:RvI} {W:RvI→GsI→MpI→MpI} (hW:∀ s M,gdB r M=true→gdB r (W r s M)=true) (e l t:Int) {M:MpI} (h:gdB r M=true):∀ i,gdB r (pnM W r e l t M i)=true
 | 0=>h
 | i + 1=>by
   rw [pnM]
   cases decide (e > 0)
   ·exact gd_fold hW e l t h i
   ·exact hW _ _ (gd_fold hW e l t h i)
theorem gd_wvN {r:RvI}:∀ (n:Nat) (s:GsI) (M:MpI),gdB r M=true→gdB r (wvN n r s M)=true
 | 0,s,M,h=>by
   rw [wvN]
   cases s.2.1 != 0
   ·cases (mpFind GsSh HpSh s M).isSome
    ·exact gd_put h s
    ·exact h
   ·exact h
 | n + 1,s,M,h=>by
   rw [wvN]
   cases (mpFind GsSh HpSh s M).isSome
   ·exact gd_put (gd_fold (gd_wvN n) _ _ _ h 17) s
   ·exact h
theorem gd_wv {r:RvI} (s:GsI) (M:MpI) (h:gdB r M=true):gdB r (wv r s M)=true:=gd_wvN _ s M h
theorem clL_in (x:Int):-96≤clL x∧clL x≤96:=by
 unfold clL
 split<;>split at *<;>omega
theorem stB_in {s:GsI} (h:stB s=true):(0≤s.1∧s.1≤12)∧(-96≤s.2.1∧s.2.1≤96)∧(s.2.2.1=0∨s.2.2.1=1):=by
 unfold stB hmB at h
 simpa only [Bool.and_eq_true,Bool.or_eq_true,decide_eq_true_eq,beq_iff_eq] using h
theorem nx_e {e:Int} (h0:0 < e) (h1:e≤12):nxE e=e - 1:=by
 unfold nxE
 rw [IntKind.wrap_i64]; omega
theorem nx_st {e l t p:Int} (h:stB (e,l,t,())=true) (h0:0 < e):stB (nxG e l t p)=true:=by
 obtain ⟨h1,h2,h3⟩:=stB_in h
 have hc:=clL_in (IntKind.i64.wrap (l + IntKind.i64.wrap ((bif t==0 then 1 else -1) * p)))
 unfold stB nxG nxL nxT hmB
 simp only [nx_e h0 h1.2,Bool.and_eq_true,Bool.or_eq_true,decide_eq_true_eq,beq_iff_eq]
 refine ⟨⟨by omega,by omega⟩,hc,?_⟩
 simp only at h3
 rcases h3 with rfl | rfl
 ·cases decide (p > 0)
  ·exact .inl rfl
  ·exact .inr rfl
 ·cases decide (p > 0)
  ·exact .inr rfl
  ·exact .inl rfl
theorem pnL_congr {V V':RvI→GsI→HpI} {r:RvI} {e l t:Int} (h:∀ p,e > 0→V r (nxG e l t p)=V' r (nxG e l t p)) (n:Nat):pnL V r e l t n=pnL V' r e l t n:=by
 unfold pnL
 refine List.map_congr_left fun j _=>?_
 unfold hpO
 by_cases he:e > 0
 ·rw [h _ he]
 ·rw [decide_eq_false he]; rfl
theorem hv_eq {r:RvI} {e l t:Int} (h0:0≤e) (h1:e≤12):hv r (e,l,t,())=bif e==0&&l != 0 then (suV (decide (l > 0)),suV (decide (l > 0)),()) else chO t (stH hv r e l t):=by
 by_cases he:e=0
 ·subst he
  show hvN 0 r (0,l,t,())=_
  rw [hvN]
  unfold stH
  rw [pnL_congr (V:=fun _ _=>(0,0,())) (V':=hv) (fun p h=>absurd h (by omega))]
  rfl
 ·obtain ⟨n,hn⟩:∃ n:Nat,e=(n:Int) + 1:=⟨(e - 1).toNat,by omega⟩
  have hz:hv r (e,l,t,())=hvN (n + 1) r (e,l,t,()):=by
   show hvN e.toNat r _=_
   rw [show e.toNat=n + 1 by omega]
  rw [hz,hvN,show (e==0)=false from beq_eq_false_iff_ne.2 he,Bool.false_and,cond_false]
  unfold stH
  rw [pnL_congr (V:=hvN n) (V':=hv) (fun p h=>?_)]
  show _=hvN (nxE e).toNat r _
  rw [nx_e (by omega) h1,show (e - 1).toNat=n by omega]
theorem pnM_congr {V V':RvI→GsI→MpI→MpI} {r:RvI} {e l t:Int} (h:∀ p M,e > 0→V r (nxG e l t p) M=V' r (nxG e l t p) M) (M:MpI):∀ n,pnM V r e l t M n=pnM V' r e l t M n
 | 0=>rfl
 | n + 1=>by
   rw [pnM,pnM,pnM_congr h M n]
   by_cases he:e > 0
   ·rw [h _ _ he]
   ·rw [decide_eq_false he]; rfl
theorem pnM_zero (W:RvI→GsI→MpI→MpI) (r:RvI) (l t:Int) (M:MpI):∀ n,pnM W r 0 l t M n=M
 | 0=>rfl
 | n + 1=>by rw [pnM]; exact pnM_zero W r l t M n
theorem wv_eq {r:RvI} {e l t:Int} {M:MpI} (h0:0≤e) (h1:e≤12):wv r (e,l,t,()) M=bif e==0&&l != 0 then M else bif (mpFind GsSh HpSh (e,l,t,()) M).isSome then M else mpPut GsSh HpSh (e,l,t,()) (hv r (e,l,t,())) (pnM wv r e l t M 17):=by
 by_cases he:e=0
 ·subst he
  show wvN 0 r (0,l,t,()) M=_
  rw [wvN,pnM_zero]
  rfl
 ·obtain ⟨n,hn⟩:∃ n:Nat,e=(n:Int) + 1:=⟨(e - 1).toNat,by omega⟩
  have hz:wv r (e,l,t,()) M=wvN (n + 1) r (e,l,t,()) M:=by
   show wvN e.toNat r _ _=_
   rw [show e.toNat=n + 1 by omega]
  rw [hz,wvN,show (e==0)=false from beq_eq_false_iff_ne.2 he,Bool.false_and,cond_false]
  rw [pnM_congr (V:=wvN n) (V':=wv) (fun p M h=>?_)]
  ·rfl
  ·show _=wvN (nxE e).toNat r _ M
   rw [nx_e (by omega) h1,show (e - 1).toNat=n by omega]
theorem rv1_in {L:List (List Int)} (h:rv1 L=true):1≤L.length∧L.length≤8∧∀ i,i < L.length→cntW (L.getD i [])=true∧(L.getD i []).length=17:=by
 unfold rv1 at h
 simp only [Bool.and_eq_true,decide_eq_true_eq,List.all_eq_true] at h
 refine ⟨h.1,h.2.1,fun i hi=>?_⟩
 rw [List.getD_eq_getElem?_getD,List.getElem?_eq_getElem hi]
 exact h.2.2 _ (List.getElem_mem hi)
theorem rvB_in {r:RvI} (h:rvB r=true):rv1 r.2.1=true∧rv1 r.2.2=true∧1≤r.1∧r.1≤1000:=by
 unfold rvB at h
 simpa only [Bool.and_eq_true,decide_eq_true_eq] using h
theorem sg_text {w wb:Bool} {r:RvI} {e l t:Int} {L:List (List Int)} (hL:rv1 L=true) (ht:hmB t=true) {H:List HpI} (hH:H.length=17) {M:MpI}:sgT 20 w wb r e l t L H M tripE=some (.normal,hpA (chX (opT t) (L.map (syH r.1 e H))).1 (chX (opT t) (L.map (syH r.1 e H))).2,hpE w wb r e l t (L.map (syH r.1 e H)) M):=by
 obtain ⟨h1,h2,h3⟩:=rv1_in hL
 have hB:choB (L.map (syH r.1 e H)) t=true:=by
  unfold choB
  rw [ht,List.length_map,decide_eq_true (by omega)]; rfl
 unfold sgT
 refine (sg_run (by omega) h2 (fun i hi=>(h3 i hi).2) _).trans ?_
 show (bif choB (L.map (syH r.1 e H)) t then _ else _)=_
 rw [hB]
 rfl
theorem hpE_end {w wb:Bool} {r:RvI} {e l t:Int} {O:List HpI} {M:MpI}:HpEnd w wb r (mpPut GsSh HpSh (e,l,t,()) ((chX (opT t) O).1,(chX (opT t) O).2,()) M) (hpE w wb r e l t O M) 20:=⟨rfl,rfl,rfl,rfl,by omega,by omega,by omega⟩
theorem hpH_end {w wb:Bool} {r:RvI} {M:MpI} {B:List ABlk}:HpEnd w wb r M (hpH w wb r M++B) 2:=⟨rfl,rfl,rfl,rfl,by omega,by omega,by omega⟩
theorem hp_step (k:Nat) (w wb:Bool) (r:RvI) (s:GsI) (M:MpI) (h:hpD (k + 1) r s M=true):∃ hs q,hpT 20 (hpD k) hv wv w wb r M s.1 s.2.1 s.2.2.1 tripE=some (.normal,hpA (hv r s).1 (hv r s).2.1,hs)∧HpEnd w wb r (wv r s M) hs q:=by
 obtain ⟨e,l,t,_⟩:=s
 unfold hpD at h
 simp only [Bool.and_eq_true,decide_eq_true_eq] at h
 obtain ⟨hr,hs,hk,hg⟩:=h
 obtain ⟨h1,h2,h3⟩:=stB_in hs
 have ht:hmB t=true:=by
  unfold hmB
  rw [Bool.or_eq_true,beq_iff_eq,beq_iff_eq]; exact h3
 simp only at h1 h2 h3
 have hU:(e==0&&l != 0)=false→∃ hs q,hpU 20 (hpD k) hv wv w wb r M e l t tripE=some (.normal,hpA (hv r (e,l,t,())).1 (hv r (e,l,t,())).2.1,hs)∧HpEnd w wb r (wv r (e,l,t,()) M) hs q:=fun hn=>by
  have ehv:=hv_eq (r:=r) (l:=l) (t:=t) h1.1 h1.2
  have ewv:=wv_eq (r:=r) (l:=l) (t:=t) (M:=M) h1.1 h1.2
  rw [hn,cond_false] at ehv ewv
  unfold hpU
  cases hf:mpFind GsSh HpSh (e,l,t,()) M with
  | some v=>
    rw [hf] at ewv
    rw [ewv]
    have hv':=gd_find hg hf
    refine ⟨_,2,?_,hpH_end (B:=[.box true [.int .i64 e,.int .i64 l,.int .i64 t],.box true [.int .i64 (fdH (e,l,t,()) M).1,.int .i64 (fdH (e,l,t,()) M).2.1],.box true [.int .i64 (fdH (e,l,t,()) M).1,.int .i64 (fdH (e,l,t,()) M).2.1]])⟩
    have hfd:fdH (e,l,t,()) M=hv r (e,l,t,()):=(congrArg (fun o=>Option.getD (α:=HpI) o (0,0,())) hf).trans hv'
    rw [hfd]
    rfl
  | none=>
    rw [hf] at ewv
    replace ewv:wv r (e,l,t,()) M=mpPut GsSh HpSh (e,l,t,()) (hv r (e,l,t,())) (pnM wv r e l t M 17):=ewv
    rw [ewv,ehv]
    refine ⟨hpE w wb r e l t (stH hv r e l t) (pnM wv r e l t M 17),20,?_,hpE_end⟩
    refine (pn_run ht (fun i _ he=>?_) _).trans ?_
    ·unfold hpD
     simp only [Bool.and_eq_true,decide_eq_true_eq]
     refine ⟨hr,nx_st hs he,?_,gd_fold gd_wv e l t hg i⟩
     show nxE e < _
     rw [nx_e he h1.2]; omega
    ·rw [if_pos rfl]
     obtain ⟨r1,r2,_⟩:=rvB_in hr
     have h17:=pnL_len hv r e l t 17
     rcases h3 with rfl | rfl
     ·exact sg_text r1 rfl h17
     ·exact sg_text r2 rfl h17
 unfold hpT
 cases h0:e==0
 ·exact hU (by rw [h0]; rfl)
 ·cases hl:l != 0
  ·exact hU (by rw [hl,Bool.and_false])
  ·have ehv:=hv_eq (r:=r) (l:=l) (t:=t) h1.1 h1.2
   have ewv:=wv_eq (r:=r) (l:=l) (t:=t) (M:=M) h1.1 h1.2
   rw [h0,hl] at ehv ewv
   rw [ehv,ewv]
   exact ⟨_,2,rfl,hpH_end⟩
theorem hp_at:∀ (k:Nat) (cv:Cv) (caps:List AVal),CvAt Tryz.prog (hpX (hpD k) hv wv cv) (.fn 50 caps)
 | 0=>hpX_at spC_ok fun w wb r s M hw h=>by
   unfold hpD at h
   simp only [Bool.and_eq_true,decide_eq_true_eq] at h
   have:=(stB_in h.2.1).1.1
   omega
 | k + 1=>hpX_at (sp:=spH (hpD k) hv wv) (sp_cons (fun cv _ caps=>hp_at k cv caps) spC_ok) fun w wb r s M hw h=>by
   obtain ⟨hs,q,e,E⟩:=hp_step k w wb r s M h
   exact ⟨20,30,hs,q,(hp_body w wb hw 20 0 _ _ _ r M s.1 s.2.1 s.2.2.1 _ tripE).trans e,E⟩
noncomputable def spK:FuncId→Option (Cv→Cv):=spH (hpD 13) hv wv
theorem spK_ok:SpOk spK:=sp_cons (fun cv _ caps=>hp_at 13 cv caps) spC_ok
def c17 (c:List Int):Bool:=cntW c&&((c.length:Int)==17)
def crG {α:Type} (L:List (List Int)) (R E:Option α) (y:Int × Unit):Option (LRes (Int × Unit) α):=
 bif decide (y.1 < (L.length:Int)) then
  if 0≤y.1∧y.1 < (L.length:Int) then
   bif !c17 (L.getD y.1.toNat []) then finL (bif decide (y.1 ≥ 0) then R else E) else some (.cont (IntKind.i64.wrap (y.1 + 1),()))
  else none
 else some (.brk 0 (y.1,()))
def cr1 {α:Type} (N:Nat) (L:List (List Int)) (R E:Option α):Option α:=
 bif decide (1≤(L.length:Int)) then bif !decide ((L.length:Int)≤8) then R else afterL (iterL N (crG L R E) (0,())) fun id _=>if id=0 then E else none else R
def crF {α:Type} (N:Nat) (A B:List (List Int)) (R:Option α) (x:Int × Unit):Option (LRes (Int × Unit) α):=
 bif decide (x.1 < 2) then
  if 0≤x.1∧x.1 < ((2:Nat):Int) then cr1 N ([A,B].getD x.1.toNat []) (finL R) (some (.cont (IntKind.i64.wrap (x.1 + 1),()))) else none
 else some (.brk 0 (x.1,()))
def crT {α:Type} (N:Nat) (d:Int) (A B:List (List Int)) (k:AOut→Option α):Option α:=
 afterL (iterL N (crF N A B (k (i1 2))) (0,())) fun id _=>if id=0 then bif decide (1≤d) then bif !decide (d≤1000) then k (i1 2) else k (i1 0) else k (i1 2) else none
set_option maxRecDepth 100000 in
theorem kcr_text (N n0:Nat) (α:Type) (d:Int) (A B:List (List Int)) (k:AOut→Option α):evFn real tab ((twY fsK3 spK).env real tab N (n0 + 30)) N Tryz.f47 α [.agg [.int .i64 d,.ro LsSh A,.ro LsSh B]] k=crT N d A B k:=by kernel_rfl
theorem c17_all (L:List (List Int)):((List.range L.length).any fun i=>!c17 (L.getD i []))=!L.all fun c=>cntW c&&decide (c.length=17):=by
 rw [any_rangeX L [] fun c=>!c17 c]
 have h17:∀ c:List Int,((c.length:Int)==17)=decide (c.length=17):=fun c=>by
  rw [Bool.eq_iff_iff,beq_iff_eq,decide_eq_true_eq]; omega
 induction L with
 | nil=>rfl
 | cons c L ih=>
   rw [List.any_cons,List.all_cons,ih,Bool.not_and]
   unfold c17
   rw [h17]
theorem cr1_eq {α:Type} {N:Nat} (hN:9 < N) (L:List (List Int)) (R E:Option α):cr1 N L R E=bif rv1 L then E else R:=by
 unfold cr1 rv1
 by_cases h1:1≤L.length
 case neg=>rw [decide_eq_false (show ¬ 1≤(L.length:Int) by omega),decide_eq_false h1]; rfl
 by_cases h8:L.length≤8
 case neg=>rw [decide_eq_true (show 1≤(L.length:Int) by omega),decide_eq_false (show ¬ (L.length:Int)≤8 by omega),decide_eq_true h1,decide_eq_false h8]; rfl
 rw [decide_eq_true (show 1≤(L.length:Int) by omega),decide_eq_true (show (L.length:Int)≤8 by omega),decide_eq_true h1,decide_eq_true h8]
 have hmx:L.length≤maxLen:=by have:maxLen=9223372036854775807:=rfl; omega
 refine (any_loop' (f:=crG L R E) (fun i:Nat=>((i:Int),())) L.length (fun i=>!c17 (L.getD i [])) R (fun i hi=>?_) (y:=((L.length:Int),())) (b:=0) ?_ (by omega)).trans ?_
 ·unfold crG
  simp only [lt_len hi,cond_true,in_len hi,if_pos,and_self,decide_true,Int.toNat_natCast,wrap_next hi hmx]
  try (rw [decide_eq_true (show (i:Int) ≥ 0 by omega)]; rfl)
 ·unfold crG
  simp only [not_lt_len,cond_false]
 ·rw [if_pos rfl,c17_all]
  show _=bif true&&(true&&_) then E else R
  rw [Bool.true_and,Bool.true_and]
  cases L.all fun c=>cntW c&&decide (c.length=17)<;>rfl
theorem crT_eq {α:Type} {N:Nat} (hN:9 < N) (d:Int) (A B:List (List Int)) (k:AOut→Option α):crT N d A B k=k (i1 (bif rvB (d,A,B) then 0 else 2)):=by
 unfold crT
 refine (any_loop' (f:=crF N A B (k (i1 2))) (fun i:Nat=>((i:Int),())) 2 (fun i=>!rv1 ([A,B].getD i [])) (k (i1 2)) (fun i hi=>?_) (y:=(2,())) (b:=0) ?_ (by omega)).trans ?_
 ·unfold crF
  rw [cr1_eq hN]
  simp only []
  rw [decide_eq_true (show (i:Int) < 2 by omega),cond_true,if_pos ⟨by omega,by omega⟩,Int.toNat_natCast,wrap_next (show i < 2 by omega) (by decide)]
  cases rv1 ([A,B].getD i [])<;>rfl
 ·rfl
 ·rw [if_pos rfl]
  show (bif (!rv1 A || (!rv1 B || false)) then _ else _)=_
  unfold rvB
  cases rv1 A
  ·rfl
  cases rv1 B
  ·rfl
  show (bif decide (1≤d) then bif !decide (d≤1000) then k (i1 2) else k (i1 0) else k (i1 2))=k (i1 (bif (decide (1≤d)&&decide (d≤1000)) then 0 else 2))
  cases decide (1≤d)
  ·rfl
  cases decide (d≤1000)<;>rfl
noncomputable def kcrS:Fsp:=fun _ args k=>match args with
 | [.agg [.int .i64 d,.ro (.sl (.int .i64)) A,.ro (.sl (.int .i64)) B]]=>k (i1 (bif rvB (d,A,B) then 0 else 2))
 | _=>none
theorem kcrS_ok:FspOk Tryz.prog 47 kcrS:=tower_Y fsK3_ok spK_ok ⟨Tryz.func47,fun _ _=>by kernel_rfl⟩ (by intro α args k; unfold kcrS; split<;>rfl) fun args out hSm hEq=>by
 unfold kcrS at hEq
 split at hEq
 ·rename_i d A B
  exact ⟨12,30,((kcr_text 12 0 AOut d A B some).trans (crT_eq (by decide) d A B some)).trans hEq⟩
 ·cases hEq
/-! States. -/
theorem kcs_text (N n0:Nat) (α:Type) (e l t:Int) (k:AOut→Option α):evFn real tab ((twY fsK3 spK).env real tab N (n0 + 30)) N Tryz.f30 α [.agg [.int .i64 e,.int .i64 l,.int .i64 t]] k =
 bif decide (0≤e) then bif !decide (e≤12) then k (i1 2) else bif decide (-96≤l) then bif !decide (l≤96) then k (i1 2) else bif decide (0≤t) then bif !decide (t≤1) then k
 (i1 2) else k (i1 0) else k (i1 2) else k (i1 2) else k (i1 2):=by kernel_rfl
theorem hm_dec (t:Int):(decide (0≤t)&&decide (t≤1))=hmB t:=by
 unfold hmB
 rw [Bool.eq_iff_iff,Bool.and_eq_true,Bool.or_eq_true,decide_eq_true_eq,decide_eq_true_eq,beq_iff_eq,beq_iff_eq]
 omega
theorem st_parts {β:Type} (e l t:Int) (X Y:β):(bif decide (0≤e) then bif !decide (e≤12) then X else bif decide (-96≤l) then bif !decide (l≤96) then X else bif decide (0≤t) then bif !decide (t≤1) then X else Y else X else X else X)=bif stB (e,l,t,()) then Y else X:=by
 unfold stB
 rw [← hm_dec]
 simp only []
 cases decide (0≤e)
 ·rfl
 cases decide (e≤12)
 ·rfl
 cases decide (-96≤l)
 ·rfl
 cases decide (l≤96)
 ·rfl
 cases decide (0≤t)
 ·rfl
 cases decide (t≤1)<;>rfl
noncomputable def kcsS:Fsp:=fun _ args k=>match args with
 | [.agg [.int .i64 e,.int .i64 l,.int .i64 t]]=>k (i1 (bif stB (e,l,t,()) then 0 else 2))
 | _=>none
theorem kcsS_ok:FspOk Tryz.prog 30 kcsS:=tower_Y fsK3_ok spK_ok ⟨Tryz.func30,fun _ _=>by kernel_rfl⟩ (by intro α args k; unfold kcsS; split<;>rfl) fun args out hSm hEq=>by
 unfold kcsS at hEq
 split at hEq
 ·rename_i e l t
  refine ⟨12,30,((kcs_text 12 0 AOut e l t some).trans ((st_parts e l t (some (i1 2)) (some (i1 0))).trans ?_)).trans hEq⟩
  cases stB (e,l,t,())<;>rfl
 ·cases hEq
noncomputable def fsK4:FuncId→Option Fsp:=fun g=>
 if g=47 then some kcrS else
 if g=30 then some kcsS else
 fsK3 g
theorem fsK4_ok:FsOk fsK4:=
 fs_cons kcrS_ok <|
 fs_cons kcsS_ok <|
 fsK3_ok
/-! The next state. -/
def ptB (p:Int):Bool:=decide (-8≤p)&&decide (p≤8)
def nnO (e l t p:Int):AOut:=bif stB (e,l,t,())&&ptB p then bif e==0 then .ret (.tup [nxA 0 0 0,.int .i64 9]) else .ret (.tup [nxA (nxE e) (nxL l t p) (nxT t p),.int .i64 0]) else .ret (.tup [nxA 0 0 0,.int .i64 2])
def nnB (e l t p:Int):Bool:=stB (e,l,t,())&&(ptB p&&!(e==0))
def nnE (e l t p:Int):Int:=bif nnB e l t p then nxE e else 0
def nnL (e l t p:Int):Int:=bif nnB e l t p then nxL l t p else 0
def nnT (e l t p:Int):Int:=bif nnB e l t p then nxT t p else 0
def nnR (e l t p:Int):Int:=bif stB (e,l,t,())&&ptB p then bif e==0 then 9 else 0 else 2
theorem nnO_eq (e l t p:Int):nnO e l t p=.ret (.tup [nxA (nnE e l t p) (nnL e l t p) (nnT e l t p),.int .i64 (nnR e l t p)]):=by
 unfold nnO nnE nnL nnT nnR nnB
 cases stB (e,l,t,())
 ·rfl
 cases ptB p
 ·rfl
 cases e==0<;>rfl
theorem knn_text (N n0:Nat) (α:Type) (e l t p:Int) (k:AOut→Option α):evFn real tab ((twY fsK4 spK).env real tab N (n0 + 30)) N Tryz.f11 α [.agg [.int .i64 e,.int .i64 l,.int .i64 t],.int .i64 p] k =
 bif (bif stB (e,l,t,()) then (0:Int) else 2) != 0 then k (.ret (.tup [nxA 0 0 0,.int .i64 2])) else bif decide (-8≤p) then bif !decide (p≤8) then k (.ret (.tup [nxA 0 0 0,
 .int .i64 2])) else bif e==0 then k (.ret (.tup [nxA 0 0 0,.int .i64 9])) else bif hmB t then k (.ret (.tup [nxA (nxE e) (nxL l t p) (nxT t p),.int .i64 0])) else none else k
 (.ret (.tup [nxA 0 0 0,.int .i64 2])):=by kernel_rfl
noncomputable def knnS:Fsp:=fun _ args k=>match args with
 | [.agg [.int .i64 e,.int .i64 l,.int .i64 t],.int .i64 p]=>k (.ret (.tup [nxA (nnE e l t p) (nnL e l t p) (nnT e l t p),.int .i64 (nnR e l t p)]))
 | _=>none
theorem stB_hm {e l t:Int} (h:stB (e,l,t,())=true):hmB t=true:=by
 unfold stB at h
 simp only [Bool.and_eq_true] at h
 exact h.2.2
theorem knnS_ok:FspOk Tryz.prog 11 knnS:=tower_Y fsK4_ok spK_ok ⟨Tryz.func11,fun _ _=>by kernel_rfl⟩ (by intro α args k; unfold knnS; split<;>rfl) fun args out hSm hEq=>by
 unfold knnS at hEq
 split at hEq
 ·rename_i e l t p
  replace hEq:=(congrArg some (nnO_eq e l t p)).trans hEq
  refine ⟨12,30,((knn_text 12 0 AOut e l t p some).trans ?_).trans hEq⟩
  unfold nnO ptB
  cases hs:stB (e,l,t,())
  ·rfl
  show (bif decide (-8≤p) then bif !decide (p≤8) then _ else bif e==0 then _ else bif hmB t then _ else none else _)=_
  rw [stB_hm hs]
  cases decide (-8≤p)
  ·rfl
  cases decide (p≤8)
  ·rfl
  show _=some (bif e==0 then _ else _)
  cases e==0<;>rfl
 ·cases hEq
noncomputable def fsK5:FuncId→Option Fsp:=fun g=>
 if g=11 then some knnS else
 fsK4 g
theorem fsK5_ok:FsOk fsK5:=
 fs_cons knnS_ok <|
 fsK4_ok
def rsB (d:Int) (A B:List (List Int)) (e l t:Int):Bool:=rvB (d,A,B)&&stB (e,l,t,())
theorem rs_parts {β:Type} (d:Int) (A B:List (List Int)) (e l t:Int) (X Y:β):(bif (bif rvB (d,A,B) then (0:Int) else 2)==0 then bif !(bif stB (e,l,t,()) then (0:Int) else 2)==0 then X else Y else X)=bif rsB d A B e l t then Y else X:=by
 unfold rsB
 cases rvB (d,A,B)
 ·rfl
 cases stB (e,l,t,())<;>rfl
theorem hpD_nil {d:Int} {A B:List (List Int)} {s:GsI} (hr:rvB (d,A,B)=true) (hs:stB s=true) {M:MpI} (hg:gdB (d,A,B) M=true):hpD 13 (d,A,B) s M=true:=by
 unfold hpD
 rw [hr,hs,hg,decide_eq_true (show s.1 < ((13:Nat):Int) by have:=(stB_in hs).1; omega)]
 rfl
/-! Value. -/
def vaO' (d:Int) (A B:List (List Int)) (e l t:Int):AOut:=bif rsB d A B e l t then .ret (.tup [hpA (hv (d,A,B) (e,l,t,())).1 (hv (d,A,B) (e,l,t,())).2.1,.int .i64 0]) else .ret (.tup [hpA 0 0,.int .i64 2])
def rsE (d:Int) (A B:List (List Int)) (e l t:Int):Int:=bif rsB d A B e l t then 0 else 2
def vaL (d:Int) (A B:List (List Int)) (e l t:Int):Int:=bif rsB d A B e l t then (hv (d,A,B) (e,l,t,())).1 else 0
def vaH (d:Int) (A B:List (List Int)) (e l t:Int):Int:=bif rsB d A B e l t then (hv (d,A,B) (e,l,t,())).2.1 else 0
theorem vaO_eq (d:Int) (A B:List (List Int)) (e l t:Int):vaO' d A B e l t=.ret (.tup [hpA (vaL d A B e l t) (vaH d A B e l t),.int .i64 (rsE d A B e l t)]):=by
 unfold vaO' rsE vaL vaH
 cases rsB d A B e l t<;>rfl
theorem kva_text (N n0:Nat) (α:Type) (d:Int) (A B:List (List Int)) (e l t:Int) (k:AOut→Option α):evFn real tab ((twY fsK5 spK).env real tab N (n0 + 30)) N Tryz.f12 α [.agg [.int .i64 d,.ro LsSh A,.ro LsSh B],.agg [.int .i64 e,.int .i64 l,.int .i64 t]] k =
 bif (bif rvB (d,A,B) then (0:Int) else 2)==0 then bif !(bif stB (e,l,t,()) then (0:Int) else 2)==0 then k (.ret (.tup [hpA 0 0,.int .i64 2])) else bif hpD 13 (d,A,B)
 (e,l,t,()) [] then k (.ret (.tup [hpA (hv (d,A,B) (e,l,t,())).1 (hv (d,A,B) (e,l,t,())).2.1,.int .i64 0])) else none else k (.ret (.tup [hpA 0 0,.int .i64 2])):=by
 kernel_rfl
noncomputable def kvaS:Fsp:=fun _ args k=>match args with
 | [.agg [.int .i64 d,.ro (.sl (.int .i64)) A,.ro (.sl (.int .i64)) B],.agg [.int .i64 e,.int .i64 l,.int .i64 t]]=>k (.ret (.tup [hpA (vaL d A B e l t) (vaH d A B e l t),.int .i64 (rsE d A B e l t)]))
 | _=>none
theorem kvaS_ok:FspOk Tryz.prog 12 kvaS:=tower_Y fsK5_ok spK_ok ⟨Tryz.func12,fun _ _=>by kernel_rfl⟩ (by intro α args k; unfold kvaS; split<;>rfl) fun args out hSm hEq=>by
 unfold kvaS at hEq
 split at hEq
 ·rename_i d A B e l t
  replace hEq:=(congrArg some (vaO_eq d A B e l t)).trans hEq
  refine ⟨20,30,((kva_text 20 0 AOut d A B e l t some).trans ((rs_parts d A B e l t _ _).trans ?_)).trans hEq⟩
  unfold vaO'
  cases hr:rsB d A B e l t
  ·rfl
  unfold rsB at hr
  rw [Bool.and_eq_true] at hr
  rw [hpD_nil hr.1 hr.2 rfl]
  rfl
 ·cases hEq
/-! Blank. -/
def bkG (r:RvI) (e l t p:Int):HpI:=hv r (nxG e l t p)
def bkP (r:RvI) (e l t:Int):HpI:=bif t==1 then bkG r e l t 1 else bkG r e l t 0
def bkQ (r:RvI) (e l t:Int):HpI:=bif t==1 then bkG r e l t 0 else bkG r e l t 1
def bkL (r:RvI) (e l t:Int):Int:=IntKind.i64.wrap ((bkP r e l t).1 - (bkQ r e l t).2.1)
def bkH (r:RvI) (e l t:Int):Int:=IntKind.i64.wrap ((bkP r e l t).2.1 - (bkQ r e l t).1)
def bkW (a b:Int):Int:=bif decide (a > 0) then 1 else bif decide (b < 0) then -1 else 0
def bkX (e:Int):AOut:=.ret (.tup [.int .i64 0,.int .i64 0,.int .i64 0,.int .i64 e])
def bkO (d:Int) (A B:List (List Int)) (e l t:Int):AOut:=bif rsB d A B e l t then bif e==0 then bkX 9 else .ret (.tup [.int .i64 (bkL (d,A,B) e l t),.int .i64 (bkH (d,A,B) e l t),.int .i64 (bkW (bkL (d,A,B) e l t) (bkH (d,A,B) e l t)),.int .i64 0]) else bkX 2
def bkB (d:Int) (A B:List (List Int)) (e l t:Int):Bool:=rsB d A B e l t&&!(e==0)
def bqL (d:Int) (A B:List (List Int)) (e l t:Int):Int:=bif bkB d A B e l t then bkL (d,A,B) e l t else 0
def bqH (d:Int) (A B:List (List Int)) (e l t:Int):Int:=bif bkB d A B e l t then bkH (d,A,B) e l t else 0
def bqW (d:Int) (A B:List (List Int)) (e l t:Int):Int:=bif bkB d A B e l t then bkW (bkL (d,A,B) e l t) (bkH (d,A,B) e l t) else 0
def bqE (d:Int) (A B:List (List Int)) (e l t:Int):Int:=bif rsB d A B e l t then bif e==0 then 9 else 0 else 2
theorem bkO_eq (d:Int) (A B:List (List Int)) (e l t:Int):bkO d A B e l t=.ret (.tup [.int .i64 (bqL d A B e l t),.int .i64 (bqH d A B e l t),.int .i64 (bqW d A B e l t),.int .i64 (bqE d A B e l t)]):=by
 unfold bkO bqL bqH bqW bqE bkB
 cases rsB d A B e l t
 ·rfl
 cases e==0<;>rfl
def bkT {α:Type} (a b:Int) (k:AOut→Option α):Option α:=bif decide (a > 0) then k (.ret (.tup [.int .i64 a,.int .i64 b,.int .i64 1,.int .i64 0])) else bif decide (b < 0) then k (.ret (.tup [.int .i64 a,.int .i64 b,.int .i64 (-1),.int .i64 0])) else k (.ret (.tup [.int .i64 a,.int .i64 b,.int .i64 0,.int .i64 0]))
theorem kbk_text (N n0:Nat) (α:Type) (d:Int) (A B:List (List Int)) (e l t:Int) (k:AOut→Option α):evFn real tab ((twY fsK5 spK).env real tab N (n0 + 30)) N Tryz.f16 α [.agg [.int .i64 d,.ro LsSh A,.ro LsSh B],.agg [.int .i64 e,.int .i64 l,.int .i64 t]] k =
 bif (bif rvB (d,A,B) then (0:Int) else 2)==0 then bif !(bif stB (e,l,t,()) then (0:Int) else 2)==0 then k (bkX 2) else bif e==0 then k (bkX 9) else bif hmB t then bif
 hpD 13 (d,A,B) (nxG e l t 0) [] then bif hmB t then bif hpD 13 (d,A,B) (nxG e l t 1) (wv (d,A,B) (nxG e l t 0) []) then bif t==1 then bkT (IntKind.i64.wrap ((bkG (d,A,B) e
 l t 1).1 - (bkG (d,A,B) e l t 0).2.1)) (IntKind.i64.wrap ((bkG (d,A,B) e l t 1).2.1 - (bkG (d,A,B) e l t 0).1)) k else bkT (IntKind.i64.wrap ((bkG (d,A,B) e l t 0).1 - (bkG
 (d,A,B) e l t 1).2.1)) (IntKind.i64.wrap ((bkG (d,A,B) e l t 0).2.1 - (bkG (d,A,B) e l t 1).1)) k else none else none else none else none else k (bkX 2):=by kernel_rfl
theorem bkT_eq {α:Type} (a b:Int) (k:AOut→Option α):bkT a b k=k (.ret (.tup [.int .i64 a,.int .i64 b,.int .i64 (bkW a b),.int .i64 0])):=by
 unfold bkT bkW
 cases decide (a > 0)
 ·cases decide (b < 0)<;>rfl
 ·rfl
noncomputable def kbkS:Fsp:=fun _ args k=>match args with
 | [.agg [.int .i64 d,.ro (.sl (.int .i64)) A,.ro (.sl (.int .i64)) B],.agg [.int .i64 e,.int .i64 l,.int .i64 t]]=>k (.ret (.tup [.int .i64 (bqL d A B e l t),.int .i64 (bqH d A B e l t),.int .i64 (bqW d A B e l t),.int .i64 (bqE d A B e l t)]))
 | _=>none
theorem kbkS_ok:FspOk Tryz.prog 16 kbkS:=tower_Y fsK5_ok spK_ok ⟨Tryz.func16,fun _ _=>by kernel_rfl⟩ (by intro α args k; unfold kbkS; split<;>rfl) fun args out hSm hEq=>by
 unfold kbkS at hEq
 split at hEq
 ·rename_i d A B e l t
  replace hEq:=(congrArg some (bkO_eq d A B e l t)).trans hEq
  refine ⟨20,30,((kbk_text 20 0 AOut d A B e l t some).trans ((rs_parts d A B e l t _ _).trans ?_)).trans hEq⟩
  unfold bkO
  cases hr:rsB d A B e l t
  ·rfl
  rw [cond_true,cond_true]
  unfold rsB at hr
  rw [Bool.and_eq_true] at hr
  cases he:e==0
  case true=>rfl
  have h0:0 < e:=by
   have:=(stB_in hr.2).1.1
   have:e≠0:=beq_eq_false_iff_ne.1 he
   simp only at *
   omega
  rw [cond_false,cond_false,stB_hm hr.2,hpD_nil hr.1 (nx_st hr.2 h0) rfl,hpD_nil hr.1 (nx_st hr.2 h0) (gd_wv _ _ rfl),cond_true,cond_true,cond_true,cond_true,bkT_eq,bkT_eq]
  unfold bkL bkH bkP bkQ
  cases t==1<;>rfl
 ·cases hEq
/-! The best one. -/
def beF {α:Type} (q:HpI→HpI→Bool) (H:List HpI) (x:Int × Int × Unit):Option (LRes (Int × Int × Unit) α):=
 bif decide (x.2.1 < (H.length:Int)) then
  if 0≤x.2.1∧x.2.1 < (H.length:Int) then if 0≤x.1∧x.1 < (H.length:Int) then
   bif q (H.getD x.2.1.toNat (0,0,())) (H.getD x.1.toNat (0,0,())) then some (.cont (x.2.1,IntKind.i64.wrap (x.2.1 + 1),())) else some (.cont (x.1,IntKind.i64.wrap (x.2.1 + 1),()))
  else none else none
 else some (.brk 0 (x.1,x.2.1,()))
noncomputable def fsK6:FuncId→Option Fsp:=fun g=>
 if g=12 then some kvaS else
 if g=16 then some kbkS else
 fsK5 g
theorem fsK6_ok:FsOk fsK6:=
 fs_cons kvaS_ok <|
 fs_cons kbkS_ok <|
 fsK5_ok
noncomputable def fsK7:FuncId→Option Fsp:=fun g=>
 fsK6 g
theorem fsK7_ok:FsOk fsK7:=
 fsK6_ok
end Go.Proofs.YtbkpklfjoifdbaaGreat
namespace Go.Proofs.YtbkpklfjoifdbaaGreat
/-! Products. -/
/-! Sums. -/
/-! Differences. -/
open Go.RowKit
def l1 (l:List Int):AOut:=.ret (.ro (.int .i64) l)
/-! Sums. -/
section
variable {σ α:Type}
end
section
variable {α:Type}
end
/-! Products. -/
section
variable {α:Type} (N:Nat) (b R:List Int)
end
section
variable {α:Type}
end
/-! Shares. -/
section
variable {α:Type} (N:Nat) (X:Int) (a:List Int)
end
/-! Numbers with a sign. -/
/-! Within. -/
/-! Unit. -/
/-! Products of spots. -/
end Go.Proofs.YtbkpklfjoifdbaaGreat
namespace Go.Proofs.YtbkpklfjoifdbaaGreat
open Go.RowKit
theorem i64_in (n:Int) (h:-9223372036854775808≤n∧n≤9223372036854775807):IntKind.i64.wrap n=n:=by rw [IntKind.wrap_i64]; omega
theorem in_dec {a lo hi:Int}:(decide (lo≤a)&&decide (a≤hi))=true↔lo≤a∧a≤hi:=by simp
theorem wBc_ex:∃ f:Int→Bool,f=wB:=⟨_,rfl⟩
noncomputable def wBc:Int→Bool:=Classical.choose wBc_ex
theorem wBc_eq:wBc=wB:=Classical.choose_spec wBc_ex
noncomputable def prodCS:Fsp:=fun _ args k=>match args with
 | [.int .u64 x,.int .u64 y]=>bif wBc x&&wBc y then k (.ret (.agg [uN (hiW (x * y)),uN (loW (x * y))])) else none
 | _=>none
theorem prodCS_ok:FspOk Tryz.prog 44 prodCS:=by
 have e:prodCS=prodS:=by
  unfold prodCS prodS; first | (rw [wBc_eq]; done) | (rw [wBc_eq]; rfl)
 rw [e]; exact prodS_ok
noncomputable def cmpCS:Fsp:=fun _ args k=>match args with
 | [.agg [.int .u64 a,.int .u64 b],.agg [.int .u64 c,.int .u64 d]]=>bif wBc b&&wBc d then k (.ret (.int .i64 (cmp3 (vw a b) (vw c d)))) else none
 | _=>none
theorem cmpCS_ok:FspOk Tryz.prog 85 cmpCS:=by
 have e:cmpCS=cmpVS:=by
  unfold cmpCS cmpVS; first | (rw [wBc_eq]; done) | (rw [wBc_eq]; rfl)
 rw [e]; exact cmpVS_ok
set_option maxRecDepth 100000 in
theorem ways_text (N n0:Nat) (α:Type) (how:Int) (k:AOut→Option α):evFn real tab ((twT fsF spC).env real tab N (n0 + 8)) N Tryz.f41 α [.int .i64 how] k =
 bif how==0 then k (AOut.ret (AVal.fn 79 [])) else bif how==1 then k (AOut.ret (AVal.fn 80 [])) else bif how==2 then k (AOut.ret (AVal.fn 81 [])) else bif how==3 then k
 (AOut.ret (AVal.fn 82 [])) else k (AOut.pan (AVal.ifc 141 (AVal.agg [AVal.int IntKind.i64 2]))):=by kernel_rfl
noncomputable def waysS:Fsp:=fun _ args k=>match args with
 | [.int .i64 how]=>bif how==0 then k (.ret (.fn 79 [])) else bif how==1 then k (.ret (.fn 80 [])) else bif how==2 then k (.ret (.fn 81 [])) else bif how==3 then k (.ret (.fn 82 [])) else k (mis fxm 2)
 | _=>none
theorem waysS_ok:FspOk Tryz.prog 41 waysS:=tower_S fsF_ok spC_ok ⟨Tryz.func41,fun _ _=>by kernel_rfl⟩ (by intro α args k; unfold waysS; split<;>first | rfl | simp only [cond_bind,Option.bind_some]) fun args out hs h=>by
 unfold waysS at h
 split at h
 ·rename_i how
  exact ⟨8,8,(ways_text 8 0 AOut how some).trans h⟩
 ·cases h
noncomputable def fsL0:FuncId→Option Fsp:=fun g=>
 if g=41 then some waysS else
 if g=44 then some prodCS else
 if g=85 then some cmpCS else
 fsF g
theorem fsL0_ok:FsOk fsL0:=
 fs_cons waysS_ok <|
 fs_cons prodCS_ok <|
 fs_cons cmpCS_ok <|
 fsF_ok
noncomputable def wrBody {α:Type} (h l n b m:Int):Option (LRes (Int × Int × Unit) α):=
 bif decide (b > 0) then
  bif wBc m&&wBc m then
   bif wBc (loW (m * m))&&wBc l then
    bif decide (cmp3 (vw (hiW (m * m)) (loW (m * m))) (vw h l)≤0) then some (LRes.cont (m,b.fdiv (2 ^ min (Int.toNat 1) 64),()))
    else some (LRes.cont (n,b.fdiv (2 ^ min (Int.toNat 1) 64),()))
   else none
  else none
 else some (LRes.brk 0 (n,b,()))
set_option maxRecDepth 100000 in
theorem wroot_text (N n0:Nat) (α:Type) (h l:Int) (k:AOut→Option α):evFn real tab ((twT fsL0 spC).env real tab N (n0 + 8)) N Tryz.f83 α [.agg [.int .u64 h,.int .u64 l]] k =
 afterL (iterL N (fun x:Int × Int × Unit=>wrBody h l x.1 x.2.1 (IntKind.u64.wrap (((BitVec.ofInt 64 x.1 ||| BitVec.ofInt 64 x.2.1).toNat:Nat):Int))) (0,4611686018427387904,
 ())) fun id y=>if id=0 then k (.ret (.int .u64 y.1)) else none:=by kernel_rfl
def rtB (h l:Int):Bool:=(wB h&&wB l)&&decide (vw h l < 85070591730234615865843651857942052864)
def rtP (s:Int) (m:Nat):Bool:=decide ((m:Int) * m≤s)
theorem rt_bs (s:Int):rt s=((bs (rtP s) 63 0:Nat):Int):=by rw [rt_C]; rfl
theorem rtP_anti {s:Int} (m n:Nat) (h:n≤m) (hm:rtP s m=true):rtP s n=true:=by
 simp only [rtP,decide_eq_true_eq] at hm ⊢
 have:(n:Int) * n≤m * m:=Int.mul_le_mul (by omega) (by omega) (by omega) (by omega)
 omega
theorem rt_spec {s:Int} (h0:0≤s) (h1:s < 85070591730234615865843651857942052864):0≤rt s∧rt s * rt s≤s∧s < (rt s + 1) * (rt s + 1)∧rt s < 9223372036854775808:=by
 have p63:(2:Nat) ^ 63=9223372036854775808:=rfl
 have ht:rtP s (0 + 2 ^ 63)=false:=by
  rw [p63,Nat.zero_add]
  simp only [rtP,decide_eq_false_iff_not]
  intro h
  have h:(9223372036854775808:Int) * 9223372036854775808≤s:=h
  omega
 have a:=bs_spec (rtP s) (fun m n=>rtP_anti m n) 63 0 (by simp [rtP]; exact h0) ht
 rw [p63] at a
 rw [rt_bs]
 generalize bs (rtP s) 63 0=n at *
 simp only [rtP,decide_eq_true_eq,decide_eq_false_iff_not] at a
 have e:(((n + 1:Nat):Int))=(n:Int) + 1:=by omega
 rw [e] at a
 have hb:=a.2.2.2
 exact ⟨by omega,a.1,by omega,by omega⟩
theorem wroot_plain (N n0:Nat) (α:Type) {h l:Int} (hb:rtB h l=true) (k:AOut→Option α):evFn real tab ((twT fsL0 spC).env real tab (N + 64) (n0 + 8)) (N + 64) Tryz.f83 α [.agg [uN h,uN l]] k=k (.ret (.int .u64 (rt (vw h l)))):=by
 rw [wroot_text]
 simp only [rtB,Bool.and_eq_true,decide_eq_true_eq,wB_iff] at hb
 obtain ⟨⟨hh,hl⟩,hs⟩:=hb
 have hl':=hl
 unfold Word at hh hl
 have hs0:0≤vw h l:=by unfold vw; omega
 generalize hf:(fun y:Int × Int × Unit=>(_:Option (LRes (Int × Int × Unit) α)))=f
 have e:=bit_search (f:=f) (rtP (vw h l)) 63 (fun n k h1 h2 h3=>?_) (fun n=>?_) 63 0 rfl (by omega) (by simp [rtP]; exact hs0) (N + 64) (by omega)
 ·have q0:(2 ^ 63 / 2:Nat)=4611686018427387904:=rfl
  have q1:((4611686018427387904:Nat):Int)=4611686018427387904:=rfl
  rw [q0,q1] at e
  have e':iterL (N + 64) f (0,4611686018427387904,())=some (.brk 0 (((bs (rtP (vw h l)) 63 0:Nat):Int),0,())):=e
  rw [e',rt_bs]
  rfl
 ·rw [← hf]
  have p63:(2:Nat) ^ 63=9223372036854775808:=rfl
  have hk:2 ^ (k + 1)=2 ^ k + 2 ^ k:=by rw [Nat.pow_succ]; omega
  have hpos:0 < 2 ^ k:=Nat.two_pow_pos k
  have hor:IntKind.u64.wrap (((BitVec.ofInt 64 (n:Int) ||| BitVec.ofInt 64 ((2 ^ k:Nat):Int)).toNat:Nat):Int)=((n + 2 ^ k:Nat):Int):=by
   rw [or_add (k + 1) (by omega) (by omega) (by omega) (by omega)]; omega
  have hsh:(((2 ^ k:Nat):Int)).fdiv (2 ^ min (Int.toNat 1) 64)=((2 ^ k / 2:Nat):Int):=by
   rw [show (2:Int) ^ min (Int.toNat 1) 64=2 from rfl,fdiv_pos _ (by omega)]; omega
  show wrBody h l (n:Int) ((2 ^ k:Nat):Int) _=_
  rw [hor]
  unfold wrBody
  rw [hsh,decide_eq_true (show ((2 ^ k:Nat):Int) > 0 by omega),wBc_eq]
  have w1:wB ((n + 2 ^ k:Nat):Int)=true:=by rw [wB_iff]; unfold Word; omega
  rw [w1,lo_wB,wB_iff.2 hl',cmp3_le,vw_hl,Bool.and_self,cond_true,cond_true,cond_true]
  show (bif rtP (vw h l) (n + 2 ^ k) then _ else _)=_
  cases rtP (vw h l) (n + 2 ^ k)<;>rfl
 ·rw [← hf]
  rfl
noncomputable def rootWS:Fsp:=fun _ args k=>match args with
 | [.agg [.int .u64 h,.int .u64 l]]=>bif rtB h l then k (.ret (.int .u64 (rt (vw h l)))) else none
 | _=>none
theorem rootWS_ok:FspOk Tryz.prog 83 rootWS:=tower_S fsL0_ok spC_ok ⟨Tryz.func83,fun _ _=>by kernel_rfl⟩ (by intro α args k; unfold rootWS; split<;>simp only [cond_bind,Option.bind_some,Option.bind_none]) fun args out hs hq=>by
 unfold rootWS at hq
 split at hq
 ·rename_i h l
  cases hb:rtB h l
  ·rw [hb] at hq; cases hq
  ·rw [hb,cond_true] at hq
   exact ⟨64,8,(wroot_plain 0 0 AOut hb some).trans hq⟩
 ·cases hq
noncomputable def spL:FuncId→Option (Cv→Cv):=fun g=>
 spC g
theorem spL_ok:SpOk spL:=
 spC_ok
/-! How a way rounds. -/
set_option maxRecDepth 100000 in
theorem way0_text (N n0:Nat) (α:Type) (x:Int) (b:Bool) (k:AOut→Option α):evFn real tab ((twT fsL0 spC).env real tab N (n0 + 8)) N Tryz.f79 α [.int .i64 x,.bool b] k =
 k (AOut.ret (AVal.bool false)):=by kernel_rfl
set_option maxRecDepth 100000 in
theorem way1_text (N n0:Nat) (α:Type) (x:Int) (b:Bool) (k:AOut→Option α):evFn real tab ((twT fsL0 spC).env real tab N (n0 + 8)) N Tryz.f80 α [.int .i64 x,.bool b] k =
 k (AOut.ret (AVal.bool b)):=by kernel_rfl
set_option maxRecDepth 100000 in
theorem way2_text (N n0:Nat) (α:Type) (x:Int) (b:Bool) (k:AOut→Option α):evFn real tab ((twT fsL0 spC).env real tab N (n0 + 8)) N Tryz.f81 α [.int .i64 x,.bool b] k =
 k (AOut.ret (AVal.bool !b)):=by kernel_rfl
set_option maxRecDepth 100000 in
theorem way3_text (N n0:Nat) (α:Type) (x:Int) (b:Bool) (k:AOut→Option α):evFn real tab ((twT fsL0 spC).env real tab N (n0 + 8)) N Tryz.f82 α [.int .i64 x,.bool b] k =
 k (AOut.ret (AVal.bool (decide (x ≥ 0)))):=by kernel_rfl
theorem way0_fin (x:Int) (b:Bool) (hs:∀ c∈([.int .i64 x,.bool b]:List AVal),Sm c):∃ N n,∀ α (k:AOut→Option α),evFn real tab ((twT fsL0 spC).env real tab N n) N Tryz.f79 α [.int .i64 x,.bool b] k=k (b1 false):=by
 exact ⟨8,8,fun α k=>way0_text 8 0 α x b k⟩
noncomputable def way0S:Fsp:=fun _ args k=>match args with
 | [.int .i64 x,.bool b]=>k (b1 false)
 | _=>none
theorem way0S_ok:FspOk Tryz.prog 79 way0S:=tower_S fsL0_ok spC_ok ⟨Tryz.func79,fun _ _=>by kernel_rfl⟩ (by intro α args k; unfold way0S; split<;>rfl) fun args out hSm hEq=>by
 unfold way0S at hEq
 split at hEq
 ·rename_i x b
  obtain ⟨N,n,e⟩:=way0_fin x b hSm
  exact ⟨N,n,(e AOut some).trans hEq⟩
 ·cases hEq
theorem way1_fin (x:Int) (b:Bool) (hs:∀ c∈([.int .i64 x,.bool b]:List AVal),Sm c):∃ N n,∀ α (k:AOut→Option α),evFn real tab ((twT fsL0 spC).env real tab N n) N Tryz.f80 α [.int .i64 x,.bool b] k=k (b1 b):=by
 exact ⟨8,8,fun α k=>way1_text 8 0 α x b k⟩
noncomputable def way1S:Fsp:=fun _ args k=>match args with
 | [.int .i64 x,.bool b]=>k (b1 b)
 | _=>none
theorem way1S_ok:FspOk Tryz.prog 80 way1S:=tower_S fsL0_ok spC_ok ⟨Tryz.func80,fun _ _=>by kernel_rfl⟩ (by intro α args k; unfold way1S; split<;>rfl) fun args out hSm hEq=>by
 unfold way1S at hEq
 split at hEq
 ·rename_i x b
  obtain ⟨N,n,e⟩:=way1_fin x b hSm
  exact ⟨N,n,(e AOut some).trans hEq⟩
 ·cases hEq
theorem way2_fin (x:Int) (b:Bool) (hs:∀ c∈([.int .i64 x,.bool b]:List AVal),Sm c):∃ N n,∀ α (k:AOut→Option α),evFn real tab ((twT fsL0 spC).env real tab N n) N Tryz.f81 α [.int .i64 x,.bool b] k=k (b1 (!b)):=by
 exact ⟨8,8,fun α k=>way2_text 8 0 α x b k⟩
noncomputable def way2S:Fsp:=fun _ args k=>match args with
 | [.int .i64 x,.bool b]=>k (b1 (!b))
 | _=>none
theorem way2S_ok:FspOk Tryz.prog 81 way2S:=tower_S fsL0_ok spC_ok ⟨Tryz.func81,fun _ _=>by kernel_rfl⟩ (by intro α args k; unfold way2S; split<;>rfl) fun args out hSm hEq=>by
 unfold way2S at hEq
 split at hEq
 ·rename_i x b
  obtain ⟨N,n,e⟩:=way2_fin x b hSm
  exact ⟨N,n,(e AOut some).trans hEq⟩
 ·cases hEq
theorem way3_fin (x:Int) (b:Bool) (hs:∀ c∈([.int .i64 x,.bool b]:List AVal),Sm c):∃ N n,∀ α (k:AOut→Option α),evFn real tab ((twT fsL0 spC).env real tab N n) N Tryz.f82 α [.int .i64 x,.bool b] k=k (b1 (decide (x ≥ 0))):=by
 exact ⟨8,8,fun α k=>way3_text 8 0 α x b k⟩
noncomputable def way3S:Fsp:=fun _ args k=>match args with
 | [.int .i64 x,.bool b]=>k (b1 (decide (x ≥ 0)))
 | _=>none
theorem way3S_ok:FspOk Tryz.prog 82 way3S:=tower_S fsL0_ok spC_ok ⟨Tryz.func82,fun _ _=>by kernel_rfl⟩ (by intro α args k; unfold way3S; split<;>rfl) fun args out hSm hEq=>by
 unfold way3S at hEq
 split at hEq
 ·rename_i x b
  obtain ⟨N,n,e⟩:=way3_fin x b hSm
  exact ⟨N,n,(e AOut some).trans hEq⟩
 ·cases hEq
set_option maxRecDepth 100000 in
theorem up2_text (N n0:Nat) (α:Type) (h l:Int) (k:AOut→Option α):evFn real tab ((twT fsL0 spC).env real tab N (n0 + 8)) N Tryz.f84 α [.agg [.int .u64 h,.int .u64 l],.int .u64 2] k =
 k (AOut.ret (AVal.agg [AVal.int IntKind.u64 (IntKind.u64.wrap (↑(BitVec.ofInt 64 (IntKind.u64.wrap (h * 2 ^ min (Int.toNat 2) 64)) ||| BitVec.ofInt 64 (l.fdiv (2 ^ min
 (IntKind.u64.wrap (64 - 2)).toNat 64))).toNat:Int)),AVal.int IntKind.u64 (IntKind.u64.wrap (l * 2 ^ min (Int.toNat 2) 64))])):=by kernel_rfl
noncomputable def up2S:Fsp:=fun _ args k=>match args with
 | [.agg [.int .u64 h,.int .u64 l],.int .u64 n]=>bif n==2&&rtB h l then k (.ret (.agg [uN (hiW (4 * vw h l)),uN (loW (4 * vw h l))])) else none
 | _=>none
theorem up2_plain {h l:Int} (hb:rtB h l=true):IntKind.u64.wrap (((BitVec.ofInt 64 (IntKind.u64.wrap (h * 2 ^ min (Int.toNat 2) 64)) ||| BitVec.ofInt 64 (l.fdiv (2 ^ min (IntKind.u64.wrap (64 - 2)).toNat 64))).toNat:Nat):Int)=hiW (4 * vw h l)∧IntKind.u64.wrap (l * 2 ^ min (Int.toNat 2) 64)=loW (4 * vw h l):=by
 simp only [rtB,Bool.and_eq_true,decide_eq_true_eq,wB_iff] at hb
 obtain ⟨⟨hh,hl⟩,hs⟩:=hb
 unfold Word at hh hl
 have k4:(2:Int) ^ min (Int.toNat 2) 64=4:=rfl
 have k62:(2:Int) ^ min (IntKind.u64.wrap (64 - 2)).toNat 64=4611686018427387904:=by
  have:(IntKind.u64.wrap (64 - 2)).toNat=62:=by rw [IntKind.wrap_u64]; rfl
  rw [this]; rfl
 have hv:vw h l=h * 18446744073709551616 + l:=rfl
 rw [hv] at hs ⊢
 rw [k4,k62,fdiv_pos _ (by omega),u64w (h * 4) (by omega),or_add 2 (by omega) (by omega) (by omega) (by omega),IntKind.wrap_u64]
 unfold hiW loW
 exact ⟨by omega,by omega⟩
theorem up2S_ok:FspOk Tryz.prog 84 up2S:=tower_S fsL0_ok spC_ok ⟨Tryz.func84,fun _ _=>by kernel_rfl⟩ (by intro α args k; unfold up2S; split<;>simp only [cond_bind,Option.bind_some,Option.bind_none]) fun args out hs hq=>by
 unfold up2S at hq
 split at hq
 ·rename_i h l n
  by_cases hn:n=2
  ·subst hn
   cases hb:rtB h l
   ·rw [hb] at hq; cases hq
   ·rw [hb] at hq
    refine ⟨8,8,(up2_text 8 0 AOut h l some).trans (Eq.trans ?_ hq)⟩
    rw [(up2_plain hb).1,(up2_plain hb).2]
    rfl
  ·rw [show (n==2)=false by simp [hn]] at hq; cases hq
 ·cases hq
noncomputable def fsL1:FuncId→Option Fsp:=fun g=>
 if g=83 then some rootWS else
 if g=79 then some way0S else
 if g=80 then some way1S else
 if g=81 then some way2S else
 if g=82 then some way3S else
 if g=84 then some up2S else
 fsL0 g
theorem fsL1_ok:FsOk fsL1:=
 fs_cons rootWS_ok <|
 fs_cons way0S_ok <|
 fs_cons way1S_ok <|
 fs_cons way2S_ok <|
 fs_cons way3S_ok <|
 fs_cons up2S_ok <|
 fsL0_ok
noncomputable def rEnd {α:Type} (x:Int) (k:AOut→Option α):Option α:=bif wB x then (bif fxB x then k (i1 (sg false x)) else k (mis fxm 4)) else none
noncomputable def rootText {α:Type} (h l r m r1:Int) (u:Bool) (k:AOut→Option α):Option α:=
 bif rtB h l then
  bif wBc r&&wBc r then
   bif !(hiW (r * r)==h&&(loW (r * r)==l&&true)) then
    bif (2:Int)==2&&rtB h l then
     bif wBc m&&wBc m then
      bif wBc (loW (4 * vw h l))&&wBc (loW (m * m)) then (bif u then rEnd r1 k else rEnd r k)
      else none
     else none
    else none
   else rEnd r k
  else none
 else none
noncomputable def upW (how s:Int):Bool:=if how=2 then true else if how=3 then decide ((2 * rt s + 1) * (2 * rt s + 1)≤4 * s) else false
theorem ge_cmp3 (a b:Int):decide (cmp3 a b ≥ 0)=decide (b≤a):=by
 unfold cmp3
 rw [decide_eq_decide]
 split
 ·constructor<;>intro _<;>omega
 ·split<;>constructor<;>intro _<;>omega
theorem vw_eq {x h l:Int} (hl:Word l):(hiW x==h&&(loW x==l&&true))=(x==vw h l):=by
 rw [Bool.and_true,Bool.eq_iff_iff,Bool.and_eq_true,beq_iff_eq,beq_iff_eq,beq_iff_eq]
 unfold hiW loW vw
 unfold Word at hl
 constructor
 ·rintro ⟨rfl,rfl⟩; omega
 ·intro h; subst h; omega
theorem rEnd_of {α:Type} {x:Int} (h:0≤x∧x < 18446744073709551616) (k:AOut→Option α):rEnd x k=fitK false x k:=by
 unfold rEnd; rw [wB_iff.2 h]; rfl
theorem root_fin {α:Type} {h l how:Int} (hb:rtB h l=true) {u:Bool} (hu:u=upW how (vw h l)) (k:AOut→Option α):rootText h l (rt (vw h l)) (2 * rt (vw h l) + 1) (rt (vw h l) + 1) u k=fitK false (rtN (vw h l) how) k:=by
 have hb':=hb
 simp only [rtB,Bool.and_eq_true,decide_eq_true_eq,wB_iff] at hb'
 obtain ⟨⟨hh,hl⟩,hs⟩:=hb'
 have h0:0≤vw h l:=by unfold vw Word at *; omega
 obtain ⟨a,b,c,d⟩:=rt_spec h0 hs
 unfold rootText
 rw [hb,vw_eq hl,wBc_eq,wB_iff.2 (show Word (rt (vw h l)) from ⟨a,by omega⟩),wB_iff.2 (show Word (2 * rt (vw h l) + 1) from ⟨by omega,by omega⟩),lo_wB,lo_wB,rEnd_of (x:=rt (vw h l)) ⟨a,by omega⟩,rEnd_of (x:=rt (vw h l) + 1) ⟨by omega,by omega⟩,hu]
 unfold rtN
 generalize vw h l=s at *
 have sq:(2 * rt s + 1) * (2 * rt s + 1)=4 * (rt s * rt s) + 4 * rt s + 1:=by
  rw [Int.add_mul,Int.mul_add,Int.one_mul,Int.mul_one,show 2 * rt s * (2 * rt s)=4 * (rt s * rt s) by rw [Int.mul_assoc,Int.mul_left_comm (rt s) 2,← Int.mul_assoc]; rfl]
  omega
 have e2:((2:Int)==2)=true:=rfl
 unfold upW rtUp
 rw [e2]
 by_cases hq:rt s * rt s=s
 ·have e3:(rt s * rt s==s)=true:=by rw [hq]; simp
  have e4:decide ((2 * rt s + 1) * (2 * rt s + 1)≤4 * s)=false:=decide_eq_false (by omega)
  rw [e3,e4]
  split
  ·simp
  ·split<;>simp
 ·have e3:(rt s * rt s==s)=false:=by simpa using hq
  rw [e3]
  split
  ·simp
  ·split
   ·cases decide ((2 * rt s + 1) * (2 * rt s + 1)≤4 * s)<;>simp
   ·simp
noncomputable def rootFS:Fsp:=fun _ args k=>match args with
 | [.agg [.int .u64 h,.int .u64 l],.fn g []]=>
   match howOf g with
   | some how=>bif rtB h l then fitK false (rtN (vw h l) how) k else none
   | none=>none
 | _=>none
noncomputable abbrev rM (h l:Int):Int:=IntKind.u64.wrap (IntKind.u64.wrap (2 * rt (vw h l)) + 1)
noncomputable abbrev rO (h l:Int):Int:=IntKind.u64.wrap (rt (vw h l) + 1)
set_option maxRecDepth 100000 in
theorem root0_text (N n:Nat) (α:Type) (h l:Int) (k:AOut→Option α):evFn real tab ((twT fsL1 spC).env real tab N (n + 8)) N Tryz.f43 α [.agg [uN h,uN l],.fn 79 []] k=rootText h l (rt (vw h l)) (rM h l) (rO h l) false k:=by kernel_rfl
set_option maxRecDepth 100000 in
theorem root1_text (N n:Nat) (α:Type) (h l:Int) (k:AOut→Option α):evFn real tab ((twT fsL1 spC).env real tab N (n + 8)) N Tryz.f43 α [.agg [uN h,uN l],.fn 80 []] k=rootText h l (rt (vw h l)) (rM h l) (rO h l) false k:=by kernel_rfl
set_option maxRecDepth 100000 in
theorem root2_text (N n:Nat) (α:Type) (h l:Int) (k:AOut→Option α):evFn real tab ((twT fsL1 spC).env real tab N (n + 8)) N Tryz.f43 α [.agg [uN h,uN l],.fn 81 []] k=rootText h l (rt (vw h l)) (rM h l) (rO h l) true k:=by kernel_rfl
set_option maxRecDepth 100000 in
theorem root3_text (N n:Nat) (α:Type) (h l:Int) (k:AOut→Option α):evFn real tab ((twT fsL1 spC).env real tab N (n + 8)) N Tryz.f43 α [.agg [uN h,uN l],.fn 82 []] k=rootText h l (rt (vw h l)) (rM h l) (rO h l) (decide (cmp3 (vw (hiW (4 * vw h l)) (loW (4 * vw h l))) (vw (hiW (rM h l * rM h l)) (loW (rM h l * rM h l))) ≥ 0)) k:=by kernel_rfl
theorem rM_eq {h l:Int} (hb:rtB h l=true):rM h l=2 * rt (vw h l) + 1∧rO h l=rt (vw h l) + 1:=by
 simp only [rtB,Bool.and_eq_true,decide_eq_true_eq,wB_iff] at hb
 obtain ⟨⟨hh,hl⟩,hs⟩:=hb
 obtain ⟨a,b,c,d⟩:=rt_spec (s:=vw h l) (by unfold vw Word at *; omega) hs
 unfold rM rO
 rw [u64w (2 * rt (vw h l)) (by omega),u64w (2 * rt (vw h l) + 1) (by omega),u64w (rt (vw h l) + 1) (by omega)]
 exact ⟨rfl,rfl⟩
theorem rootFS_ok:FspOk Tryz.prog 43 rootFS:=tower_S fsL1_ok spC_ok ⟨Tryz.func43,fun _ _=>by kernel_rfl⟩ (by intro α args k; unfold rootFS; split<;>(try split)<;>simp only [cond_bind,fitK_bind,Option.bind_some,Option.bind_none]) fun args out hs hq=>by
 unfold rootFS at hq
 split at hq
 ·rename_i h l g
  split at hq
  ·rename_i how hg
   cases hb:rtB h l
   ·rw [hb] at hq; cases hq
   ·rw [hb,cond_true] at hq
    obtain ⟨m1,m2⟩:=rM_eq hb
    rcases how_cases hg with hf | ⟨rfl,rfl⟩ | ⟨rfl,rfl⟩ | ⟨rfl,rfl⟩ | ⟨rfl,rfl⟩
    ·cases hf
    ·refine ⟨64,8,(root0_text 64 0 AOut h l some).trans (Eq.trans ?_ hq)⟩
     rw [m1,m2]; exact root_fin (how:=0) hb (by simp [upW]) some
    ·refine ⟨64,8,(root1_text 64 0 AOut h l some).trans (Eq.trans ?_ hq)⟩
     rw [m1,m2]; exact root_fin (how:=1) hb (by simp [upW]) some
    ·refine ⟨64,8,(root2_text 64 0 AOut h l some).trans (Eq.trans ?_ hq)⟩
     rw [m1,m2]; exact root_fin (how:=2) hb (by simp [upW]) some
    ·refine ⟨64,8,(root3_text 64 0 AOut h l some).trans (Eq.trans ?_ hq)⟩
     rw [m1,m2,vw_hl,vw_hl,ge_cmp3]; exact root_fin (how:=3) hb (by simp [upW]) some
  ·cases hq
 ·cases hq
noncomputable def fsL2:FuncId→Option Fsp:=fun g=>
 if g=43 then some rootFS else
 fsL1 g
theorem fsL2_ok:FsOk fsL2:=
 fs_cons rootFS_ok <|
 fsL1_ok
noncomputable def rtBr {α:Type} (h l how:Int) (k:AOut→Option α):Option α:=
 bif rtB h l then
  bif fxB (rtN (vw h l) how) then k (i2 (sg false (rtN (vw h l) how)) 0) else k (i2 0 4)
 else none
noncomputable def by4 {α:Type} (how:Int) (B:Int→Option α) (E:Option α):Option α:=bif how==0 then B 0 else bif how==1 then B 1 else bif how==2 then B 2 else bif how==3 then B 3 else E
theorem by4_eq {α:Type} (how:Int) (B:Int→Option α) (E:Option α):by4 how B E=bif wayB how then B how else E:=by
 unfold by4
 cases hw:wayB how
 ·have h0:¬ (0≤how∧how≤3):=fun h=>by rw [show wayB how=true by simp [wayB]; omega] at hw; cases hw
  rw [show (how==0)=false by simp; omega,show (how==1)=false by simp; omega,show (how==2)=false by simp; omega,show (how==3)=false by simp; omega]
  rfl
 ·rcases way_cases hw with rfl | rfl | rfl | rfl<;>rfl
theorem rtBr_eq {α:Type} {s:Int} (how:Int) (h0:0≤s) (h1:s < 85070591730234615865843651857942052864) (k:AOut→Option α):rtBr (hiW s) (loW s) how k=k (i2 (fxV false (rtN s how)) (fxE (rtN s how))):=by
 have hb:rtB (hiW s) (loW s)=true:=by
  unfold rtB
  rw [hi_wB ⟨h0,by omega⟩,lo_wB,vw_hl,decide_eq_true h1]; rfl
 unfold rtBr
 rw [hb,vw_hl]
 unfold fxV fxE
 cases fxB (rtN s how)<;>rfl
set_option maxRecDepth 100000 in
theorem flen_text (N n0:Nat) (α:Type) (x y how:Int) (k:AOut→Option α):evFn real tab ((twT fsL2 spL).env real tab N (n0 + 8)) N Tryz.f98 α [.agg [.int .i64 x,.int .i64 y],.int .i64 how] k =
 bif okB x&&okB y then by4 how (fun how=>rtBr (hiW (sq2 x y)) (loW (sq2 x y)) how k) (k (i2 0 2)) else k (i2 0 2):=by kernel_rfl
theorem sq2_in' {x y:Int} (hx:okB x=true) (hy:okB y=true):0≤sq2 x y∧sq2 x y≤9903520314283042199192993792:=by
 have a:=ab_mul_in hx hx
 have b:=ab_mul_in hy hy
 unfold sq2
 omega
theorem flen_fin (x y how:Int) (hs:∀ c∈([.agg [.int .i64 x,.int .i64 y],.int .i64 how]:List AVal),Sm c):∃ N n,∀ α (k:AOut→Option α),evFn real tab ((twT fsL2 spL).env real tab N n) N Tryz.f98 α [.agg [.int .i64 x,.int .i64 y],.int .i64 how] k=k (i2 (lenV x y how) (lenE x y how)):=by
 refine ⟨64,8,fun α k=>(flen_text 64 0 α x y how k).trans ?_⟩
 rw [by4_eq]
 unfold lenV lenE lenB
 cases hx:okB x
 ·rfl
 ·cases hy:okB y
  ·rfl
  ·cases hw:wayB how
   ·rfl
   ·have s:=sq2_in' hx hy
    rw [rtBr_eq how (by omega) (by omega)]
    rfl
noncomputable def flenS:Fsp:=fun _ args k=>match args with
 | [.agg [.int .i64 x,.int .i64 y],.int .i64 how]=>k (i2 (lenV x y how) (lenE x y how))
 | _=>none
theorem flenS_ok:FspOk Tryz.prog 98 flenS:=tower_S fsL2_ok spL_ok ⟨Tryz.func98,fun _ _=>by kernel_rfl⟩ (by intro α args k; unfold flenS; split<;>rfl) fun args out hSm hEq=>by
 unfold flenS at hEq
 split at hEq
 ·rename_i x y how
  obtain ⟨N,n,e⟩:=flen_fin x y how hSm
  exact ⟨N,n,(e AOut some).trans hEq⟩
 ·cases hEq
def z0 (P:Int):Bool:=hiW P==0&&(loW P==0&&true)
/-! First places, for the functions that are asked. -/
/-! Cells, brakes and bends. -/
/-! The corners of a cell, by the program's own wraps. -/
/-! What it comes to. -/
def mx (a b:Int):Int:=if a < b then b else a
/-! The cells that a way touches, in their order. -/
section
variable {τ α:Type}
end
/-! What is done with each cell. -/
/-! Lists, some of whose numbers something is done with. -/
/-! Boxes. -/
section
variable {σ α:Type}
end
def i3 (a b e:Int):AOut:=.ret (.tup [.int .i64 a,.int .i64 b,.int .i64 e])
section
variable {σ τ α β:Type}
def LRes.map (e:σ→τ) (g:α→β):LRes σ α→LRes τ β
 | .cont x=>.cont (e x)
 | .brk id x=>.brk id (e x)
 | .fin a=>.fin (g a)
end
section
variable {σ α:Type}
end
def SimV (u v:AVal):Prop:=∀ (h:List ABlk) (g:Gh) (w:World) (x:Value),Rep h g w u x→Rep h g w v x
theorem SimV.refl (u:AVal):SimV u u:=fun _ _ _ _ r=>r
theorem simV_nils (e:Sh):SimV .nils (.ro e []):=fun _ _ _ _ r=>Sim.rep (.inr ⟨rfl,e,rfl⟩) r
def SimVs:List AVal→List AVal→Prop
 | [],[]=>True
 | a :: l,b :: m=>SimV a b∧SimVs l m
 | _,_=>False
theorem simVs_at:∀ {l m:List AVal},SimVs l m→l.length=m.length∧∀ (j:Nat) a b,l[j]?=some a→m[j]?=some b→SimV a b
 | [],[],_=>⟨rfl,fun j a b ha=>by simp at ha⟩
 | a :: l,b :: m,h=>by
   obtain ⟨h1,h2⟩:=simVs_at h.2
   refine ⟨by simp [h1],fun j u v hu hv=>?_⟩
   cases j with
   | zero=>cases hu; cases hv; exact h.1
   | succ j=>exact h2 j u v (by simpa using hu) (by simpa using hv)
 | [],_ :: _,h=>by cases h
 | _ :: _,[],h=>by cases h
section
variable {α:Type}
end
/-! Lists of numbers for which something holds. -/
section
variable {α:Type}
end
end Go.Proofs.YtbkpklfjoifdbaaGreat
namespace Go.Proofs.YtbkpklfjoifdbaaGreat
def sel2 {β:Type} (A B:β) {α:Type} (x:Int) (f:β→Option α):Option α:=
 if 0≤x∧x < ((2:Nat):Int) then bif x==((0:Nat):Int) then f A else bif x==((0 + 1:Nat):Int) then f B else none else none
theorem sel2_eq {β:Type} (A B:β) {α:Type} (i:Nat) (hi:i < 2) (f:β→Option α):sel2 A B (i:Int) f=f ([A,B].getD i A):=by
 match i,hi with
 | 0,_=>rfl
 | 1,_=>rfl
open Go.RowKit
def prC:List Int:=(List.replicate (Int.toNat 17) 0).set (Int.toNat 9) 1
theorem kpa_text (N n0:Nat) (α:Type) (k:AOut→Option α):evFn real tab ((twP fsK7 spK).env real tab N (n0 + 30)) N Tryz.f17 α [] k=k (.ret (.agg [.int .i64 1,.ro LsSh [prC],.ro LsSh [prC]])):=by kernel_rfl
noncomputable def kpaS:Fsp:=fun _ args k=>match args with
 | []=>k (.ret (.agg [.int .i64 1,.ro LsSh [prC],.ro LsSh [prC]]))
 | _=>none
theorem kpaS_ok:FspOk Tryz.prog 17 kpaS:=tower_P fsK7_ok spK_ok ⟨Tryz.func17,fun _ _=>by kernel_rfl⟩ (by intro α args k; unfold kpaS; split<;>rfl) fun args out hSm hEq=>by
 unfold kpaS at hEq
 split at hEq
 ·exact ⟨20,30,(kpa_text 20 0 AOut some).trans hEq⟩
 ·cases hEq
noncomputable def fsK8:FuncId→Option Fsp:=fun g=>
 if g=17 then some kpaS else
 fsK7 g
theorem fsK8_ok:FsOk fsK8:=
 fs_cons kpaS_ok <|
 fsK7_ok
set_option maxRecDepth 100000 in
theorem kal_text (N n0:Nat) (α:Type) (k:AOut→Option α):evFn real tab ((twY fsK8 spK).env real tab N (n0 + 30)) N Tryz.f14 α [] k=k (b1 true):=by kernel_rfl
noncomputable def kalS:Fsp:=fun _ args k=>match args with
 | []=>k (b1 true)
 | _=>none
theorem kalS_ok:FspOk Tryz.prog 14 kalS:=tower_Y fsK8_ok spK_ok ⟨Tryz.func14,fun _ _=>by kernel_rfl⟩ (by intro α args k; unfold kalS; split<;>rfl) fun args out hSm hEq=>by
 unfold kalS at hEq
 split at hEq
 ·exact ⟨20,30,(kal_text 20 0 AOut some).trans hEq⟩
 ·cases hEq
/-! Great -/
def grI {α:Type} (A B:List (List Int)) (t:Int) (R:Option α) (x:Int × Unit):Option (LRes (Int × Unit) α):=
 sel2 A B t fun L=>bif decide (x.1 < (L.length:Int)) then sel2 A B t fun L=>if 0≤x.1∧x.1 < (L.length:Int) then bif decide (((L.getD x.1.toNat []).length:Int) > 60) then finL R else some (.cont (IntKind.i64.wrap (x.1 + 1),())) else none else some (.brk 2 (x.1,()))
def grR {α:Type} (N:Nat) (A B:List (List Int)) (t:Int) (R E:Option α):Option α:=
 sel2 A B t fun L=>bif decide ((L.length:Int) > 9) then R else afterL (iterL N (grI A B t R) (0,())) fun id _=>if id=2 then E else none
def grF {α:Type} (N:Nat) (A B:List (List Int)) (R:Option α) (x:Int × Unit):Option (LRes (Int × Unit) α):=
 bif decide (x.1 < 2) then sel2 A B x.1 fun L=>bif decide ((L.length:Int) > 3) then sel2 A B x.1 fun L=>bif decide ((L.length:Int)≤8) then finL R else grR N A B x.1 (finL R) (some (.cont (IntKind.i64.wrap (x.1 + 1),()))) else grR N A B x.1 (finL R) (some (.cont (IntKind.i64.wrap (x.1 + 1),())))
 else some (.brk 0 (x.1,()))
set_option maxRecDepth 100000 in
theorem grt_text (N n0:Nat) (α:Type) (d:Int) (A B:List (List Int)) (k:AOut→Option α):evFn real tab ((twY fsK8 spK).env real tab N (n0 + 30)) N Tryz.f7 α [.agg [.int .i64 d,.ro LsSh A,.ro LsSh B]] k=afterL (iterL N (grF N A B (k (b1 true))) (0,())) fun id _=>if id=0 then k (b1 false) else none:=by kernel_rfl
def gr1 (L:List (List Int)):Bool:=(decide (3 < L.length)&&decide (L.length≤8)) || (decide (9 < L.length) || L.any fun c=>decide (60 < c.length))
def grB (A B:List (List Int)):Bool:=gr1 A || gr1 B
theorem grR_eq {α:Type} {N:Nat} (hN:12 < N) (A B:List (List Int)) (i:Nat) (hi:i < 2) (R E:Option α):grR N A B (i:Int) R E=bif decide (9 < ([A,B].getD i A).length) || ([A,B].getD i A).any (fun c=>decide (60 < c.length)) then R else E:=by
 unfold grR
 rw [sel2_eq A B i hi]
 generalize hL:[A,B].getD i A=L
 by_cases h9:9 < L.length
 ·rw [decide_eq_true (show (L.length:Int) > 9 by omega),decide_eq_true h9]; rfl
 rw [decide_eq_false (show ¬ (L.length:Int) > 9 by omega),decide_eq_false h9,cond_false,Bool.false_or]
 have hmx:L.length≤maxLen:=by have:maxLen=9223372036854775807:=rfl; omega
 refine (any_loop' (f:=grI A B (i:Int) R) (fun j:Nat=>((j:Int),())) L.length (fun j=>decide (60 < (L.getD j []).length)) R (fun j hj=>?_) (y:=((L.length:Int),())) (b:=2) ?_ (by omega)).trans ?_
 ·unfold grI
  rw [sel2_eq A B i hi,sel2_eq A B i hi,hL]
  simp only [lt_len hj,cond_true,in_len hj,if_pos,and_self,decide_true,Int.toNat_natCast,wrap_next hj hmx]
  rw [show decide (((L.getD j []).length:Int) > 60)=decide (60 < (L.getD j []).length) from decide_eq_decide.2 (by omega)]
 ·unfold grI
  rw [sel2_eq A B i hi,hL]
  simp only [not_lt_len,cond_false]
 ·rw [if_pos rfl,any_rangeX L [] fun c=>decide (60 < c.length)]
theorem gr_plain {α:Type} {N:Nat} (hN:12 < N) (A B:List (List Int)) (k:AOut→Option α):(afterL (iterL N (grF N A B (k (b1 true))) (0,())) fun id _=>if id=0 then k (b1 false) else none)=k (b1 (grB A B)):=by
 refine (any_loop' (f:=grF N A B (k (b1 true))) (fun i:Nat=>((i:Int),())) 2 (fun i=>gr1 ([A,B].getD i A)) (k (b1 true)) (fun i hi=>?_) (y:=(2,())) (b:=0) ?_ (by omega)).trans ?_
 ·unfold grF
  simp only []
  rw [decide_eq_true (show (i:Int) < 2 by omega),cond_true,sel2_eq A B i hi,sel2_eq A B i hi,grR_eq hN A B i hi,wrap_next (show i < 2 by omega) (by decide)]
  unfold gr1
  generalize [A,B].getD i A=L
  rw [show decide ((L.length:Int) > 3)=decide (3 < L.length) from decide_eq_decide.2 (by omega),show decide ((L.length:Int)≤8)=decide (L.length≤8) from decide_eq_decide.2 (by omega)]
  cases decide (3 < L.length)
  ·cases decide (9 < L.length) || L.any fun c=>decide (60 < c.length)<;>rfl
  cases decide (L.length≤8)
  ·cases decide (9 < L.length) || L.any fun c=>decide (60 < c.length)<;>rfl
  ·rfl
 ·rfl
 ·rw [if_pos rfl]
  show (bif (gr1 A || (gr1 B || false)) then _ else _)=_
  unfold grB
  cases gr1 A
  ·cases gr1 B<;>rfl
  ·rfl
noncomputable def grtS:Fsp:=fun _ args k=>match args with
 | [.agg [.int .i64 _,.ro (.sl (.int .i64)) A,.ro (.sl (.int .i64)) B]]=>k (b1 (grB A B))
 | _=>none
theorem grtS_ok:FspOk Tryz.prog 7 grtS:=tower_Y fsK8_ok spK_ok ⟨Tryz.func7,fun _ _=>by kernel_rfl⟩ (by intro α args k; unfold grtS; split<;>rfl) fun args out hSm hEq=>by
 unfold grtS at hEq
 split at hEq
 ·rename_i d A B
  exact ⟨20,30,((grt_text 20 0 AOut d A B some).trans (gr_plain (by decide) A B some)).trans hEq⟩
 ·cases hEq
noncomputable def fsK9:FuncId→Option Fsp:=fun g=>
 if g=14 then some kalS else
 if g=7 then some grtS else
 fsK8 g
theorem fsK9_ok:FsOk fsK9:=
 fs_cons kalS_ok <|
 fs_cons grtS_ok <|
 fsK8_ok
theorem fsp_arg {P:Program} {f:FuncId} {S S':Fsp} (h:FspOk P f S) (hn:∀ (α:Type) args (k:AOut→Option α),S' α args k=(S' AOut args some).bind k)
 (hs:∀ args out,S' AOut args some=some out→∃ args',S AOut args' some=some out∧SimVs args args'):FspOk P f S' where
 enter:=h.enter
 nat:=hn
 calls:=fun args out hout M w cargs hM hl hr=>by
  obtain ⟨args',h1,h2⟩:=hs args out hout
  obtain ⟨hlen,hat⟩:=simVs_at h2
  refine h.calls args' out h1 M w cargs hM (hlen ▸ hl) fun j c x hc hx=>?_
  have hj:j < args'.length:=by
   rcases Nat.lt_or_ge j args'.length with h | h
   ·exact h
   ·rw [List.getElem?_eq_none h] at hc; cases hc
  have ha:args[j]?=some args[j]:=List.getElem?_eq_getElem (by omega)
  exact hat j _ c ha hc _ _ _ x (hr j _ x ha hx)
def nilA:List (Option Sh)→List AVal→List AVal
 | some e :: q,.nils :: r=>.ro e [] :: nilA q r
 | _ :: q,c :: r=>c :: nilA q r
 | _,r=>r
theorem nilA_sim:∀ (l:List (Option Sh)) (r:List AVal),SimVs r (nilA l r)
 | [],[]=>trivial
 | [],c :: r=>by
   have:∀ r:List AVal,SimVs r r:=fun r=>by
    induction r with
    | nil=>trivial
    | cons c r ih=>exact ⟨SimV.refl c,ih⟩
   exact this (c :: r)
 | some e :: q,[]=>trivial
 | none :: q,[]=>trivial
 | none :: q,c :: r=>⟨SimV.refl c,nilA_sim q r⟩
 | some e :: q,c :: r=>by
   cases c
   case nils=>exact ⟨simV_nils e,nilA_sim q r⟩
   all_goals exact ⟨SimV.refl _,nilA_sim q r⟩
def nilS (l:List (Option Sh)) (S:Fsp):Fsp:=fun α args k=>S α (nilA l args) k
theorem nil_ok {P:Program} {f:FuncId} {S:Fsp} (l:List (Option Sh)) (h:FspOk P f S):FspOk P f (nilS l S):=fsp_arg h (fun α args k=>h.nat α (nilA l args) k) fun args _ hs=>⟨nilA l args,hs,nilA_sim l args⟩
theorem fsp_weak {P:Program} {f:FuncId} {S S':Fsp} (h:FspOk P f S) (hn:∀ (α:Type) args (k:AOut→Option α),S' α args k=(S' AOut args some).bind k) (hs:∀ args out,S' AOut args some=some out→S AOut args some=some out):FspOk P f S' where
 enter:=h.enter
 nat:=hn
 calls:=fun args out hout=>h.calls args out (hs args out hout)
end Go.Proofs.YtbkpklfjoifdbaaGreat
