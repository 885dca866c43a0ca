/- Parts of the proof, in build order. -/
import Derived.Test.YtbkpklfjoifdbaaGreatM7
import Derived.Test.YtbkpklfjoifdbaaGreatM6
namespace Go.Proofs.YtbkpklfjoifdbaaGreat
open Go.RowKit
/-! The points of an end. -/
def suB (t p:Int):Bool:=(decide (p > 0)&&t==0) || (decide (p < 0)&&t==1)
def hpO (V:RvI→GsI→HpI) (r:RvI) (e l t p:Int):HpI:=bif decide (e > 0) then V r (nxG e l t p) else (suV (suB t p),suV (suB t p),())
def pnL (V:RvI→GsI→HpI) (r:RvI) (e l t:Int) (i:Nat):List HpI:=(List.range i).map fun j:Nat=>hpO V r e l t ((j:Int) - 8)
def pnM (W:RvI→GsI→MpI→MpI) (r:RvI) (e l t:Int) (M:MpI):Nat→MpI
 | 0=>M
 | i + 1=>bif decide (e > 0) then W r (nxG e l t ((i:Int) - 8)) (pnM W r e l t M i) else pnM W r e l t M i
theorem pnL_succ (V:RvI→GsI→HpI) (r:RvI) (e l t:Int) (i:Nat):pnL V r e l t (i + 1)=pnL V r e l t i++[hpO V r e l t ((i:Int) - 8)]:=by
 unfold pnL
 rw [List.range_succ,List.map_append]; rfl
theorem pnL_len (V:RvI→GsI→HpI) (r:RvI) (e l t:Int) (i:Nat):(pnL V r e l t i).length=i:=by
 unfold pnL
 rw [List.length_map,List.length_range]
theorem pnF_eq0 {α:Type} (D:RvI→GsI→MpI→Bool) (V:RvI→GsI→HpI) (W:RvI→GsI→MpI→MpI) (r:RvI) (e l t:Int) (x:PnS) (h8:x.1≤8):pnF (α:=α) D V W r e l t x=bif decide (e > 0) then pnH D V W r e l t x else pnZ (suB t x.1) x:=by
 unfold pnF pnC suB
 rw [decide_eq_true h8,cond_true]
 by_cases h1:x.1 > 0
 ·rw [decide_eq_true h1,decide_eq_false (show ¬ x.1 < 0 by omega),cond_true,cond_false]
  cases t==0<;>rfl
 ·rw [decide_eq_false h1,cond_false]
  by_cases h2:x.1 < 0
  ·rw [decide_eq_true h2,cond_true]
   rfl
  ·rw [decide_eq_false h2,cond_false]
   rfl
theorem pnF_eq {α:Type} {D:RvI→GsI→MpI→Bool} {V:RvI→GsI→HpI} {W:RvI→GsI→MpI→MpI} {r:RvI} {e l t:Int} (ht:hmB t=true) {M:MpI} {i:Nat} (hi:i < 17) (hD:e > 0→D r (nxG e l t ((i:Int) - 8)) (pnM W r e l t M i)=true) :
  pnF (α:=α) D V W r e l t ((i:Int) - 8,pnM W r e l t M i,pnL V r e l t i,())=some (.cont (((i + 1:Nat):Int) - 8,pnM W r e l t M (i + 1),pnL V r e l t (i + 1),())):=by
 have hl:=pnL_len V r e l t i
 have hr:((pnL V r e l t i).length + 1) * 16≤room:=by rw [hl]; simp only [room]; omega
 have hw:IntKind.i64.wrap ((i:Int) - 8 + 1)=((i + 1:Nat):Int) - 8:=by rw [IntKind.wrap_i64]; omega
 rw [pnF_eq0 _ _ _ _ _ _ _ _ (show (i:Int) - 8≤8 by omega),pnL_succ]
 simp only [pnM,hpO]
 by_cases he:e > 0
 ·rw [decide_eq_true he,cond_true,cond_true,cond_true]
  unfold pnH
  simp only []
  rw [ht,hD he,cond_true,cond_true,hw]
  exact if_pos hr
 ·rw [decide_eq_false he,cond_false,cond_false,cond_false]
  unfold pnZ
  simp only []
  rw [hw]
  exact if_pos hr
theorem pn_run {α:Type} {D:RvI→GsI→MpI→Bool} {V:RvI→GsI→HpI} {W:RvI→GsI→MpI→MpI} {r:RvI} {e l t:Int} (ht:hmB t=true) {M:MpI} (hD:∀ i:Nat,i < 17→e > 0→D r (nxG e l t ((i:Int) - 8)) (pnM W r e l t M i)=true) (K:Nat→PnS→Option α) :
  afterL (iterL 20 (pnF D V W r e l t) (-8,M,[],())) K=K 0 (9,pnM W r e l t M 17,pnL V r e l t 17,()):=
 count_loop (f:=pnF D V W r e l t) (fun i=>((i:Int) - 8,pnM W r e l t M i,pnL V r e l t i,())) 17 (fun i hi=>pnF_eq ht hi (hD i hi)) (y:=(9,pnM W r e l t M 17,pnL V r e l t 17,())) (b:=0) (by
  unfold pnF
  rfl) (by omega)
/-! The bounds of a style. -/
def lhS (H:List HpI) (i:Nat):LhS:=((H.take i).map (·.1),(H.take i).map (·.2.1),(i:Int),())
theorem lhF_eq {α:Type} (H:List HpI) (hH:H.length≤100) {i:Nat} (hi:i < H.length):lhF (α:=α) H (lhS H i)=some (.cont (lhS H (i + 1))):=by
 unfold lhS
 have hmx:H.length≤maxLen:=by have:maxLen=9223372036854775807:=rfl; omega
 have e:H.take (i + 1)=H.take i++[H.getD i (0,0,())]:=by
  rw [List.take_add_one,List.getElem?_eq_getElem hi,List.getD_eq_getElem?_getD,List.getElem?_eq_getElem hi]; rfl
 have hl:(H.take i).length=i:=List.length_take_of_le (by omega)
 have r1:(((H.take i).map (·.1)).length + 1) * 8≤room:=by rw [List.length_map,hl]; simp only [room]; omega
 have r2:(((H.take i).map (·.2.1)).length + 1) * 8≤room:=by rw [List.length_map,hl]; simp only [room]; omega
 rw [e,List.map_append,List.map_append]
 unfold lhF
 simp only []
 rw [lt_len hi,cond_true,if_pos (in_len hi),wrap_next hi hmx,Int.toNat_natCast]
 rw [if_pos (show (((H.take i).map (·.1)).length + [(H.getD i (0,0,())).1].length) * 8≤room from r1),if_pos (show (((H.take i).map (·.2.1)).length + [(H.getD i (0,0,())).2.1].length) * 8≤room from r2)]
 rfl
theorem lh_run {α:Type} (H:List HpI) (hH:H.length≤100) {N:Nat} (hN:H.length < N) (K:Nat→LhS→Option α):afterL (iterL N (lhF H) ([],[],0,())) K=K 0 (H.map (·.1),H.map (·.2.1),(H.length:Int),()):=by
 have e0:(([],[],0,()):LhS)=lhS H 0:=rfl
 have e1:lhS H H.length=(H.map (·.1),H.map (·.2.1),(H.length:Int),()):=by unfold lhS; rw [List.take_length]
 rw [e0,← e1]
 refine count_loop (f:=lhF H) (lhS H) H.length (fun i hi=>lhF_eq H hH hi) (y:=lhS H H.length) (b:=0) ?_ hN
 rw [e1]
 unfold lhF
 simp only [not_lt_len,cond_false]
def cnZ (e:Int) (c:List Int):List Int:=bif e==0 then c.set 8 0 else c
def syH (d e:Int) (H:List HpI) (c:List Int):HpI:=meH (cnZ e c) (H.map (·.1)) (H.map (·.2.1)) d
def sgS (d e:Int) (L:List (List Int)) (H:List HpI) (M:MpI) (i:Nat):SgS:=(H,(L.take i).map (syH d e H),(i:Int),M,())
theorem sgF_eq {α:Type} {d e:Int} {L:List (List Int)} {H:List HpI} {M:MpI} (hH:H.length≤18) (hL:L.length≤8) {i:Nat} (hi:i < L.length) (hc:(L.getD i []).length=17) :
  sgF (α:=α) 20 d e L (sgS d e L H M i)=some (.cont (sgS d e L H M (i + 1))):=by
 unfold sgS
 have hmx:L.length≤maxLen:=by have:maxLen=9223372036854775807:=rfl; omega
 have hE:L.take (i + 1)=L.take i++[L.getD i []]:=by
  rw [List.take_add_one,List.getElem?_eq_getElem hi,List.getD_eq_getElem?_getD,List.getElem?_eq_getElem hi]; rfl
 have hl:(L.take i).length=i:=List.length_take_of_le (by omega)
 have hm:∀ c:List Int,sgM (α:=α) 20 d c (H,(L.take i).map (syH d e H),(i:Int),M,())=some (.cont (H,(L.take i).map (syH d e H)++[meH c (H.map (·.1)) (H.map (·.2.1)) d],((i + 1:Nat):Int),M,())):=fun c=>by
  unfold sgM
  refine (lh_run H (by omega) (by omega) _).trans ?_
  rw [if_pos rfl]
  have hr:(((L.take i).map (syH d e H)).length + 1) * 16≤room:=by rw [List.length_map,hl]; simp only [room]; omega
  simp only []
  rw [wrap_next hi hmx]
  exact if_pos hr
 have hr:room ≥ 10000:=by decide
 rw [hE,List.map_append]
 unfold sgF
 simp only []
 rw [lt_len hi,cond_true,if_pos (in_len hi),Int.toNat_natCast,hm,hm]
 cases he:e==0
 ·simp only [cond_false,syH,cnZ,he,List.map_cons,List.map_nil]
 ·rw [cond_true,if_pos (show 0 < (L.getD i []).length by omega),if_pos (show ((List.nil (α:=Int)).length + (L.getD i []).length) * 8≤room by rw [hc]; simp only [List.length_nil]; omega),if_pos (show 0≤(8:Int)∧(8:Int) < ((([]:List Int)++L.getD i []).length:Int) by rw [List.nil_append,hc]; omega)]
  simp only [syH,cnZ,he,cond_true,List.map_cons,List.map_nil,List.nil_append]
  rfl
theorem sg_run {α:Type} {d e:Int} {L:List (List Int)} {H:List HpI} {M:MpI} (hH:H.length≤18) (hL:L.length≤8) (hc:∀ i,i < L.length→(L.getD i []).length=17) (K:Nat→SgS→Option α) :
  afterL (iterL 20 (sgF 20 d e L) (H,[],0,M,())) K=K 0 (H,L.map (syH d e H),(L.length:Int),M,()):=by
 have e0:((H,[],0,M,()):SgS)=sgS d e L H M 0:=rfl
 have e1:sgS d e L H M L.length=(H,L.map (syH d e H),(L.length:Int),M,()):=by unfold sgS; rw [List.take_length]
 rw [e0,← e1]
 refine count_loop (f:=sgF 20 d e L) (sgS d e L H M) L.length (fun i hi=>sgF_eq hH hL hi (hc i hi)) (y:=sgS d e L H M L.length) (b:=0) ?_ (by omega)
 rw [e1]
 unfold sgF
 simp only [not_lt_len,cond_false]
def opL (r:RvI) (t:Int):List (List Int):=bif t==0 then r.2.1 else r.2.2
def stH (V:RvI→GsI→HpI) (r:RvI) (e l t:Int):List HpI:=(opL r t).map (syH r.1 e (pnL V r e l t 17))
def chO (t:Int) (L:List HpI):HpI:=((chX (opT t) L).1,(chX (opT t) L).2,())
def hvN:Nat→RvI→GsI→HpI
 | 0,r,s=>bif s.2.1 != 0 then (suV (decide (s.2.1 > 0)),suV (decide (s.2.1 > 0)),()) else chO s.2.2.1 (stH (fun _ _=>(0,0,())) r s.1 s.2.1 s.2.2.1)
 | n + 1,r,s=>chO s.2.2.1 (stH (hvN n) r s.1 s.2.1 s.2.2.1)
def hv (r:RvI) (s:GsI):HpI:=hvN s.1.toNat r s
def wvN:Nat→RvI→GsI→MpI→MpI
 | 0,r,s,M=>bif s.2.1 != 0 then M else bif (mpFind GsSh HpSh s M).isSome then M else mpPut GsSh HpSh s (hv r s) M
 | n + 1,r,s,M=>bif (mpFind GsSh HpSh s M).isSome then M else mpPut GsSh HpSh s (hv r s) (pnM (wvN n) r s.1 s.2.1 s.2.2.1 M 17)
def wv (r:RvI) (s:GsI) (M:MpI):MpI:=wvN s.1.toNat r s M
/-! What is asked. -/
def rv1 (L:List (List Int)):Bool:=decide (1≤L.length)&&(decide (L.length≤8)&&L.all fun c=>cntW c&&decide (c.length=17))
def rvB (r:RvI):Bool:=rv1 r.2.1&&(rv1 r.2.2&&(decide (1≤r.1)&&decide (r.1≤1000)))
def stB (s:GsI):Bool:=(decide (0≤s.1)&&decide (s.1≤12))&&((decide (-96≤s.2.1)&&decide (s.2.1≤96))&&hmB s.2.2.1)
def gdB (r:RvI) (M:MpI):Bool:=M.all fun x=>x.2.1==(hv r x.1).1&&x.2.2.1==(hv r x.1).2.1
def hpD (k:Nat) (r:RvI) (s:GsI) (M:MpI):Bool:=rvB r&&(stB s&&(decide (s.1 < (k:Int))&&gdB r M))
theorem gs_eq {a b:GsI} (h:Sh.eqb GsSh a b=true):a=b:=by
 obtain ⟨a1,a2,a3,_⟩:=a
 obtain ⟨b1,b2,b3,_⟩:=b
 have h':((a1==b1)&&((a2==b2)&&((a3==b3)&&true)))=true:=h
 simp only [Bool.and_eq_true,beq_iff_eq] at h'
 obtain ⟨rfl,rfl,rfl,_⟩:=h'
 rfl
theorem gd_find {r:RvI} {M:MpI} (h:gdB r M=true) {s:GsI} {v:HpI} (hf:mpFind GsSh HpSh s M=some v):v=hv r s:=by
 induction M with
 | nil=>cases hf
 | cons p M ih=>
   unfold gdB at h
   rw [List.all_cons,Bool.and_eq_true] at h
   change (bif Sh.eqb GsSh s p.1 then some p.2 else mpFind GsSh HpSh s M)=some v at hf
   cases he:Sh.eqb GsSh s p.1
   ·rw [he] at hf
    exact ih h.2 hf
   ·rw [he] at hf
    cases (show some p.2=some v from hf)
    have e:=gs_eq he
    have h1:=h.1
    simp only [Bool.and_eq_true,beq_iff_eq] at h1
    obtain ⟨s',v1,v2,_⟩:=p
    cases e
    exact Prod.ext h1.1 (Prod.ext h1.2 rfl)
theorem gd_put {r:RvI} {M:MpI} (h:gdB r M=true) (s:GsI):gdB r (mpPut GsSh HpSh s (hv r s) M)=true:=by
 have hs:gdB r [(s,hv r s)]=true:=by
  unfold gdB
  simp
 induction M with
 | nil=>exact hs
 | cons p M ih=>
   unfold gdB at h
   rw [List.all_cons,Bool.and_eq_true] at h
   show gdB r (bif Sh.eqb GsSh s p.1 then (s,hv r s) :: M else p :: mpPut GsSh HpSh s (hv r s) M)=true
   cases he:Sh.eqb GsSh s p.1
   ·show ((p.2.1==(hv r p.1).1&&p.2.2.1==(hv r p.1).2.1)&&gdB r (mpPut GsSh HpSh s (hv r s) M))=true
    rw [h.1,ih h.2]; rfl
   ·show (((hv r s).1==(hv r s).1&&(hv r s).2.1==(hv r s).2.1)&&gdB r M)=true
    rw [beq_self_eq_true,beq_self_eq_true,show gdB r M=true from h.2]; rfl
theorem gd_fold {r:RvI} {W:RvI→GsI→MpI→MpI} (hW:∀ s M,gdB r M=true→gdB r (W r s M)=true) (e l t:Int) {M:MpI} (h:gdB r M=true):∀ i,gdB r (pnM W r e l t M i)=true
 | 0=>h
 | i + 1=>by
   rw [pnM]
   cases decide (e > 0)
   ·exact gd_fold hW e l t h i
   ·exact hW _ _ (gd_fold hW e l t h i)
theorem gd_wvN {r:RvI}:∀ (n:Nat) (s:GsI) (M:MpI),gdB r M=true→gdB r (wvN n r s M)=true
 | 0,s,M,h=>by
   rw [wvN]
   cases s.2.1 != 0
   ·cases (mpFind GsSh HpSh s M).isSome
    ·exact gd_put h s
    ·exact h
   ·exact h
 | n + 1,s,M,h=>by
   rw [wvN]
   cases (mpFind GsSh HpSh s M).isSome
   ·exact gd_put (gd_fold (gd_wvN n) _ _ _ h 17) s
   ·exact h
theorem gd_wv {r:RvI} (s:GsI) (M:MpI) (h:gdB r M=true):gdB r (wv r s M)=true:=gd_wvN _ s M h
theorem clL_in (x:Int):-96≤clL x∧clL x≤96:=by
 unfold clL
 split<;>split at *<;>omega
theorem stB_in {s:GsI} (h:stB s=true):(0≤s.1∧s.1≤12)∧(-96≤s.2.1∧s.2.1≤96)∧(s.2.2.1=0∨s.2.2.1=1):=by
 unfold stB hmB at h
 simpa only [Bool.and_eq_true,Bool.or_eq_true,decide_eq_true_eq,beq_iff_eq] using h
theorem nx_e {e:Int} (h0:0 < e) (h1:e≤12):nxE e=e - 1:=by
 unfold nxE
 rw [IntKind.wrap_i64]; omega
theorem nx_st {e l t p:Int} (h:stB (e,l,t,())=true) (h0:0 < e):stB (nxG e l t p)=true:=by
 obtain ⟨h1,h2,h3⟩:=stB_in h
 have hc:=clL_in (IntKind.i64.wrap (l + IntKind.i64.wrap ((bif t==0 then 1 else -1) * p)))
 unfold stB nxG nxL nxT hmB
 simp only [nx_e h0 h1.2,Bool.and_eq_true,Bool.or_eq_true,decide_eq_true_eq,beq_iff_eq]
 refine ⟨⟨by omega,by omega⟩,hc,?_⟩
 simp only at h3
 rcases h3 with rfl | rfl
 ·cases decide (p > 0)
  ·exact .inl rfl
  ·exact .inr rfl
 ·cases decide (p > 0)
  ·exact .inr rfl
  ·exact .inl rfl
theorem pnL_congr {V V':RvI→GsI→HpI} {r:RvI} {e l t:Int} (h:∀ p,e > 0→V r (nxG e l t p)=V' r (nxG e l t p)) (n:Nat):pnL V r e l t n=pnL V' r e l t n:=by
 unfold pnL
 refine List.map_congr_left fun j _=>?_
 unfold hpO
 by_cases he:e > 0
 ·rw [h _ he]
 ·rw [decide_eq_false he]; rfl
theorem hv_eq {r:RvI} {e l t:Int} (h0:0≤e) (h1:e≤12):hv r (e,l,t,())=bif e==0&&l != 0 then (suV (decide (l > 0)),suV (decide (l > 0)),()) else chO t (stH hv r e l t):=by
 by_cases he:e=0
 ·subst he
  show hvN 0 r (0,l,t,())=_
  rw [hvN]
  unfold stH
  rw [pnL_congr (V:=fun _ _=>(0,0,())) (V':=hv) (fun p h=>absurd h (by omega))]
  rfl
 ·obtain ⟨n,hn⟩:∃ n:Nat,e=(n:Int) + 1:=⟨(e - 1).toNat,by omega⟩
  have hz:hv r (e,l,t,())=hvN (n + 1) r (e,l,t,()):=by
   show hvN e.toNat r _=_
   rw [show e.toNat=n + 1 by omega]
  rw [hz,hvN,show (e==0)=false from beq_eq_false_iff_ne.2 he,Bool.false_and,cond_false]
  unfold stH
  rw [pnL_congr (V:=hvN n) (V':=hv) (fun p h=>?_)]
  show _=hvN (nxE e).toNat r _
  rw [nx_e (by omega) h1,show (e - 1).toNat=n by omega]
theorem pnM_congr {V V':RvI→GsI→MpI→MpI} {r:RvI} {e l t:Int} (h:∀ p M,e > 0→V r (nxG e l t p) M=V' r (nxG e l t p) M) (M:MpI):∀ n,pnM V r e l t M n=pnM V' r e l t M n
 | 0=>rfl
 | n + 1=>by
   rw [pnM,pnM,pnM_congr h M n]
   by_cases he:e > 0
   ·rw [h _ _ he]
   ·rw [decide_eq_false he]; rfl
theorem pnM_zero (W:RvI→GsI→MpI→MpI) (r:RvI) (l t:Int) (M:MpI):∀ n,pnM W r 0 l t M n=M
 | 0=>rfl
 | n + 1=>by rw [pnM]; exact pnM_zero W r l t M n
theorem wv_eq {r:RvI} {e l t:Int} {M:MpI} (h0:0≤e) (h1:e≤12):wv r (e,l,t,()) M=bif e==0&&l != 0 then M else bif (mpFind GsSh HpSh (e,l,t,()) M).isSome then M else mpPut GsSh HpSh (e,l,t,()) (hv r (e,l,t,())) (pnM wv r e l t M 17):=by
 by_cases he:e=0
 ·subst he
  show wvN 0 r (0,l,t,()) M=_
  rw [wvN,pnM_zero]
  rfl
 ·obtain ⟨n,hn⟩:∃ n:Nat,e=(n:Int) + 1:=⟨(e - 1).toNat,by omega⟩
  have hz:wv r (e,l,t,()) M=wvN (n + 1) r (e,l,t,()) M:=by
   show wvN e.toNat r _ _=_
   rw [show e.toNat=n + 1 by omega]
  rw [hz,wvN,show (e==0)=false from beq_eq_false_iff_ne.2 he,Bool.false_and,cond_false]
  rw [pnM_congr (V:=wvN n) (V':=wv) (fun p M h=>?_)]
  ·rfl
  ·show _=wvN (nxE e).toNat r _ M
   rw [nx_e (by omega) h1,show (e - 1).toNat=n by omega]
theorem rv1_in {L:List (List Int)} (h:rv1 L=true):1≤L.length∧L.length≤8∧∀ i,i < L.length→cntW (L.getD i [])=true∧(L.getD i []).length=17:=by
 unfold rv1 at h
 simp only [Bool.and_eq_true,decide_eq_true_eq,List.all_eq_true] at h
 refine ⟨h.1,h.2.1,fun i hi=>?_⟩
 rw [List.getD_eq_getElem?_getD,List.getElem?_eq_getElem hi]
 exact h.2.2 _ (List.getElem_mem hi)
theorem rvB_in {r:RvI} (h:rvB r=true):rv1 r.2.1=true∧rv1 r.2.2=true∧1≤r.1∧r.1≤1000:=by
 unfold rvB at h
 simpa only [Bool.and_eq_true,decide_eq_true_eq] using h
theorem sg_text {w wb:Bool} {r:RvI} {e l t:Int} {L:List (List Int)} (hL:rv1 L=true) (ht:hmB t=true) {H:List HpI} (hH:H.length=17) {M:MpI}:sgT 20 w wb r e l t L H M tripE=some (.normal,hpA (chX (opT t) (L.map (syH r.1 e H))).1 (chX (opT t) (L.map (syH r.1 e H))).2,hpE w wb r e l t (L.map (syH r.1 e H)) M):=by
 obtain ⟨h1,h2,h3⟩:=rv1_in hL
 have hB:choB (L.map (syH r.1 e H)) t=true:=by
  unfold choB
  rw [ht,List.length_map,decide_eq_true (by omega)]; rfl
 unfold sgT
 refine (sg_run (by omega) h2 (fun i hi=>(h3 i hi).2) _).trans ?_
 show (bif choB (L.map (syH r.1 e H)) t then _ else _)=_
 rw [hB]
 rfl
theorem hpE_end {w wb:Bool} {r:RvI} {e l t:Int} {O:List HpI} {M:MpI}:HpEnd w wb r (mpPut GsSh HpSh (e,l,t,()) ((chX (opT t) O).1,(chX (opT t) O).2,()) M) (hpE w wb r e l t O M) 20:=⟨rfl,rfl,rfl,rfl,by omega,by omega,by omega⟩
theorem hpH_end {w wb:Bool} {r:RvI} {M:MpI} {B:List ABlk}:HpEnd w wb r M (hpH w wb r M++B) 2:=⟨rfl,rfl,rfl,rfl,by omega,by omega,by omega⟩
theorem hp_step (k:Nat) (w wb:Bool) (r:RvI) (s:GsI) (M:MpI) (h:hpD (k + 1) r s M=true):∃ hs q,hpT 20 (hpD k) hv wv w wb r M s.1 s.2.1 s.2.2.1 tripE=some (.normal,hpA (hv r s).1 (hv r s).2.1,hs)∧HpEnd w wb r (wv r s M) hs q:=by
 obtain ⟨e,l,t,_⟩:=s
 unfold hpD at h
 simp only [Bool.and_eq_true,decide_eq_true_eq] at h
 obtain ⟨hr,hs,hk,hg⟩:=h
 obtain ⟨h1,h2,h3⟩:=stB_in hs
 have ht:hmB t=true:=by
  unfold hmB
  rw [Bool.or_eq_true,beq_iff_eq,beq_iff_eq]; exact h3
 simp only at h1 h2 h3
 have hU:(e==0&&l != 0)=false→∃ hs q,hpU 20 (hpD k) hv wv w wb r M e l t tripE=some (.normal,hpA (hv r (e,l,t,())).1 (hv r (e,l,t,())).2.1,hs)∧HpEnd w wb r (wv r (e,l,t,()) M) hs q:=fun hn=>by
  have ehv:=hv_eq (r:=r) (l:=l) (t:=t) h1.1 h1.2
  have ewv:=wv_eq (r:=r) (l:=l) (t:=t) (M:=M) h1.1 h1.2
  rw [hn,cond_false] at ehv ewv
  unfold hpU
  cases hf:mpFind GsSh HpSh (e,l,t,()) M with
  | some v=>
    rw [hf] at ewv
    rw [ewv]
    have hv':=gd_find hg hf
    refine ⟨_,2,?_,hpH_end (B:=[.box true [.int .i64 e,.int .i64 l,.int .i64 t],.box true [.int .i64 (fdH (e,l,t,()) M).1,.int .i64 (fdH (e,l,t,()) M).2.1],.box true [.int .i64 (fdH (e,l,t,()) M).1,.int .i64 (fdH (e,l,t,()) M).2.1]])⟩
    have hfd:fdH (e,l,t,()) M=hv r (e,l,t,()):=(congrArg (fun o=>Option.getD (α:=HpI) o (0,0,())) hf).trans hv'
    rw [hfd]
    rfl
  | none=>
    rw [hf] at ewv
    replace ewv:wv r (e,l,t,()) M=mpPut GsSh HpSh (e,l,t,()) (hv r (e,l,t,())) (pnM wv r e l t M 17):=ewv
    rw [ewv,ehv]
    refine ⟨hpE w wb r e l t (stH hv r e l t) (pnM wv r e l t M 17),20,?_,hpE_end⟩
    refine (pn_run ht (fun i _ he=>?_) _).trans ?_
    ·unfold hpD
     simp only [Bool.and_eq_true,decide_eq_true_eq]
     refine ⟨hr,nx_st hs he,?_,gd_fold gd_wv e l t hg i⟩
     show nxE e < _
     rw [nx_e he h1.2]; omega
    ·rw [if_pos rfl]
     obtain ⟨r1,r2,_⟩:=rvB_in hr
     have h17:=pnL_len hv r e l t 17
     rcases h3 with rfl | rfl
     ·exact sg_text r1 rfl h17
     ·exact sg_text r2 rfl h17
 unfold hpT
 cases h0:e==0
 ·exact hU (by rw [h0]; rfl)
 ·cases hl:l != 0
  ·exact hU (by rw [hl,Bool.and_false])
  ·have ehv:=hv_eq (r:=r) (l:=l) (t:=t) h1.1 h1.2
   have ewv:=wv_eq (r:=r) (l:=l) (t:=t) (M:=M) h1.1 h1.2
   rw [h0,hl] at ehv ewv
   rw [ehv,ewv]
   exact ⟨_,2,rfl,hpH_end⟩
theorem hp_at:∀ (k:Nat) (cv:Cv) (caps:List AVal),CvAt Tryz.prog (hpX (hpD k) hv wv cv) (.fn 50 caps)
 | 0=>hpX_at spC_ok fun w wb r s M hw h=>by
   unfold hpD at h
   simp only [Bool.and_eq_true,decide_eq_true_eq] at h
   have:=(stB_in h.2.1).1.1
   omega
 | k + 1=>hpX_at (sp:=spH (hpD k) hv wv) (sp_cons (fun cv _ caps=>hp_at k cv caps) spC_ok) fun w wb r s M hw h=>by
   obtain ⟨hs,q,e,E⟩:=hp_step k w wb r s M h
   exact ⟨20,30,hs,q,(hp_body w wb hw 20 0 _ _ _ r M s.1 s.2.1 s.2.2.1 _ tripE).trans e,E⟩
noncomputable def spK:FuncId→Option (Cv→Cv):=spH (hpD 13) hv wv
theorem spK_ok:SpOk spK:=sp_cons (fun cv _ caps=>hp_at 13 cv caps) spC_ok
def c17 (c:List Int):Bool:=cntW c&&((c.length:Int)==17)
def crG {α:Type} (L:List (List Int)) (R E:Option α) (y:Int × Unit):Option (LRes (Int × Unit) α):=
 bif decide (y.1 < (L.length:Int)) then
  if 0≤y.1∧y.1 < (L.length:Int) then
   bif !c17 (L.getD y.1.toNat []) then finL (bif decide (y.1 ≥ 0) then R else E) else some (.cont (IntKind.i64.wrap (y.1 + 1),()))
  else none
 else some (.brk 0 (y.1,()))
def cr1 {α:Type} (N:Nat) (L:List (List Int)) (R E:Option α):Option α:=
 bif decide (1≤(L.length:Int)) then bif !decide ((L.length:Int)≤8) then R else afterL (iterL N (crG L R E) (0,())) fun id _=>if id=0 then E else none else R
def crF {α:Type} (N:Nat) (A B:List (List Int)) (R:Option α) (x:Int × Unit):Option (LRes (Int × Unit) α):=
 bif decide (x.1 < 2) then
  if 0≤x.1∧x.1 < ((2:Nat):Int) then cr1 N ([A,B].getD x.1.toNat []) (finL R) (some (.cont (IntKind.i64.wrap (x.1 + 1),()))) else none
 else some (.brk 0 (x.1,()))
def crT {α:Type} (N:Nat) (d:Int) (A B:List (List Int)) (k:AOut→Option α):Option α:=
 afterL (iterL N (crF N A B (k (i1 2))) (0,())) fun id _=>if id=0 then bif decide (1≤d) then bif !decide (d≤1000) then k (i1 2) else k (i1 0) else k (i1 2) else none
set_option maxRecDepth 100000 in
theorem kcr_text (N n0:Nat) (α:Type) (d:Int) (A B:List (List Int)) (k:AOut→Option α):evFn real tab ((twY fsK3 spK).env real tab N (n0 + 30)) N Tryz.f47 α [.agg [.int .i64 d,.ro LsSh A,.ro LsSh B]] k=crT N d A B k:=by kernel_rfl
theorem c17_all (L:List (List Int)):((List.range L.length).any fun i=>!c17 (L.getD i []))=!L.all fun c=>cntW c&&decide (c.length=17):=by
 rw [any_rangeX L [] fun c=>!c17 c]
 have h17:∀ c:List Int,((c.length:Int)==17)=decide (c.length=17):=fun c=>by
  rw [Bool.eq_iff_iff,beq_iff_eq,decide_eq_true_eq]; omega
 induction L with
 | nil=>rfl
 | cons c L ih=>
   rw [List.any_cons,List.all_cons,ih,Bool.not_and]
   unfold c17
   rw [h17]
theorem cr1_eq {α:Type} {N:Nat} (hN:9 < N) (L:List (List Int)) (R E:Option α):cr1 N L R E=bif rv1 L then E else R:=by
 unfold cr1 rv1
 by_cases h1:1≤L.length
 case neg=>rw [decide_eq_false (show ¬ 1≤(L.length:Int) by omega),decide_eq_false h1]; rfl
 by_cases h8:L.length≤8
 case neg=>rw [decide_eq_true (show 1≤(L.length:Int) by omega),decide_eq_false (show ¬ (L.length:Int)≤8 by omega),decide_eq_true h1,decide_eq_false h8]; rfl
 rw [decide_eq_true (show 1≤(L.length:Int) by omega),decide_eq_true (show (L.length:Int)≤8 by omega),decide_eq_true h1,decide_eq_true h8]
 have hmx:L.length≤maxLen:=by have:maxLen=9223372036854775807:=rfl; omega
 refine (any_loop' (f:=crG L R E) (fun i:Nat=>((i:Int),())) L.length (fun i=>!c17 (L.getD i [])) R (fun i hi=>?_) (y:=((L.length:Int),())) (b:=0) ?_ (by omega)).trans ?_
 ·unfold crG
  simp only [lt_len hi,cond_true,in_len hi,if_pos,and_self,decide_true,Int.toNat_natCast,wrap_next hi hmx]
  try (rw [decide_eq_true (show (i:Int) ≥ 0 by omega)]; rfl)
 ·unfold crG
  simp only [not_lt_len,cond_false]
 ·rw [if_pos rfl,c17_all]
  show _=bif true&&(true&&_) then E else R
  rw [Bool.true_and,Bool.true_and]
  cases L.all fun c=>cntW c&&decide (c.length=17)<;>rfl
theorem crT_eq {α:Type} {N:Nat} (hN:9 < N) (d:Int) (A B:List (List Int)) (k:AOut→Option α):crT N d A B k=k (i1 (bif rvB (d,A,B) then 0 else 2)):=by
 unfold crT
 refine (any_loop' (f:=crF N A B (k (i1 2))) (fun i:Nat=>((i:Int),())) 2 (fun i=>!rv1 ([A,B].getD i [])) (k (i1 2)) (fun i hi=>?_) (y:=(2,())) (b:=0) ?_ (by omega)).trans ?_
 ·unfold crF
  rw [cr1_eq hN]
  simp only []
  rw [decide_eq_true (show (i:Int) < 2 by omega),cond_true,if_pos ⟨by omega,by omega⟩,Int.toNat_natCast,wrap_next (show i < 2 by omega) (by decide)]
  cases rv1 ([A,B].getD i [])<;>rfl
 ·rfl
 ·rw [if_pos rfl]
  show (bif (!rv1 A || (!rv1 B || false)) then _ else _)=_
  unfold rvB
  cases rv1 A
  ·rfl
  cases rv1 B
  ·rfl
  show (bif decide (1≤d) then bif !decide (d≤1000) then k (i1 2) else k (i1 0) else k (i1 2))=k (i1 (bif (decide (1≤d)&&decide (d≤1000)) then 0 else 2))
  cases decide (1≤d)
  ·rfl
  cases decide (d≤1000)<;>rfl
noncomputable def kcrS:Fsp:=fun _ args k=>match args with
 | [.agg [.int .i64 d,.ro (.sl (.int .i64)) A,.ro (.sl (.int .i64)) B]]=>k (i1 (bif rvB (d,A,B) then 0 else 2))
 | _=>none
theorem kcrS_ok:FspOk Tryz.prog 47 kcrS:=tower_Y fsK3_ok spK_ok ⟨Tryz.func47,fun _ _=>by kernel_rfl⟩ (by intro α args k; unfold kcrS; split<;>rfl) fun args out hSm hEq=>by
 unfold kcrS at hEq
 split at hEq
 ·rename_i d A B
  exact ⟨12,30,((kcr_text 12 0 AOut d A B some).trans (crT_eq (by decide) d A B some)).trans hEq⟩
 ·cases hEq
/-! States. -/
theorem kcs_text (N n0:Nat) (α:Type) (e l t:Int) (k:AOut→Option α):evFn real tab ((twY fsK3 spK).env real tab N (n0 + 30)) N Tryz.f30 α [.agg [.int .i64 e,.int .i64 l,.int .i64 t]] k =
 bif decide (0≤e) then bif !decide (e≤12) then k (i1 2) else bif decide (-96≤l) then bif !decide (l≤96) then k (i1 2) else bif decide (0≤t) then bif !decide (t≤1) then k
 (i1 2) else k (i1 0) else k (i1 2) else k (i1 2) else k (i1 2):=by kernel_rfl
theorem hm_dec (t:Int):(decide (0≤t)&&decide (t≤1))=hmB t:=by
 unfold hmB
 rw [Bool.eq_iff_iff,Bool.and_eq_true,Bool.or_eq_true,decide_eq_true_eq,decide_eq_true_eq,beq_iff_eq,beq_iff_eq]
 omega
theorem st_parts {β:Type} (e l t:Int) (X Y:β):(bif decide (0≤e) then bif !decide (e≤12) then X else bif decide (-96≤l) then bif !decide (l≤96) then X else bif decide (0≤t) then bif !decide (t≤1) then X else Y else X else X else X)=bif stB (e,l,t,()) then Y else X:=by
 unfold stB
 rw [← hm_dec]
 simp only []
 cases decide (0≤e)
 ·rfl
 cases decide (e≤12)
 ·rfl
 cases decide (-96≤l)
 ·rfl
 cases decide (l≤96)
 ·rfl
 cases decide (0≤t)
 ·rfl
 cases decide (t≤1)<;>rfl
noncomputable def kcsS:Fsp:=fun _ args k=>match args with
 | [.agg [.int .i64 e,.int .i64 l,.int .i64 t]]=>k (i1 (bif stB (e,l,t,()) then 0 else 2))
 | _=>none
theorem kcsS_ok:FspOk Tryz.prog 30 kcsS:=tower_Y fsK3_ok spK_ok ⟨Tryz.func30,fun _ _=>by kernel_rfl⟩ (by intro α args k; unfold kcsS; split<;>rfl) fun args out hSm hEq=>by
 unfold kcsS at hEq
 split at hEq
 ·rename_i e l t
  refine ⟨12,30,((kcs_text 12 0 AOut e l t some).trans ((st_parts e l t (some (i1 2)) (some (i1 0))).trans ?_)).trans hEq⟩
  cases stB (e,l,t,())<;>rfl
 ·cases hEq
noncomputable def fsK4:FuncId→Option Fsp:=fun g=>
 if g=47 then some kcrS else
 if g=30 then some kcsS else
 fsK3 g
theorem fsK4_ok:FsOk fsK4:=
 fs_cons kcrS_ok <|
 fs_cons kcsS_ok <|
 fsK3_ok
/-! The next state. -/
def ptB (p:Int):Bool:=decide (-8≤p)&&decide (p≤8)
def nnO (e l t p:Int):AOut:=bif stB (e,l,t,())&&ptB p then bif e==0 then .ret (.tup [nxA 0 0 0,.int .i64 9]) else .ret (.tup [nxA (nxE e) (nxL l t p) (nxT t p),.int .i64 0]) else .ret (.tup [nxA 0 0 0,.int .i64 2])
def nnB (e l t p:Int):Bool:=stB (e,l,t,())&&(ptB p&&!(e==0))
def nnE (e l t p:Int):Int:=bif nnB e l t p then nxE e else 0
def nnL (e l t p:Int):Int:=bif nnB e l t p then nxL l t p else 0
def nnT (e l t p:Int):Int:=bif nnB e l t p then nxT t p else 0
def nnR (e l t p:Int):Int:=bif stB (e,l,t,())&&ptB p then bif e==0 then 9 else 0 else 2
theorem nnO_eq (e l t p:Int):nnO e l t p=.ret (.tup [nxA (nnE e l t p) (nnL e l t p) (nnT e l t p),.int .i64 (nnR e l t p)]):=by
 unfold nnO nnE nnL nnT nnR nnB
 cases stB (e,l,t,())
 ·rfl
 cases ptB p
 ·rfl
 cases e==0<;>rfl
theorem knn_text (N n0:Nat) (α:Type) (e l t p:Int) (k:AOut→Option α):evFn real tab ((twY fsK4 spK).env real tab N (n0 + 30)) N Tryz.f11 α [.agg [.int .i64 e,.int .i64 l,.int .i64 t],.int .i64 p] k =
 bif (bif stB (e,l,t,()) then (0:Int) else 2) != 0 then k (.ret (.tup [nxA 0 0 0,.int .i64 2])) else bif decide (-8≤p) then bif !decide (p≤8) then k (.ret (.tup [nxA 0 0 0,
 .int .i64 2])) else bif e==0 then k (.ret (.tup [nxA 0 0 0,.int .i64 9])) else bif hmB t then k (.ret (.tup [nxA (nxE e) (nxL l t p) (nxT t p),.int .i64 0])) else none else k
 (.ret (.tup [nxA 0 0 0,.int .i64 2])):=by kernel_rfl
noncomputable def knnS:Fsp:=fun _ args k=>match args with
 | [.agg [.int .i64 e,.int .i64 l,.int .i64 t],.int .i64 p]=>k (.ret (.tup [nxA (nnE e l t p) (nnL e l t p) (nnT e l t p),.int .i64 (nnR e l t p)]))
 | _=>none
theorem stB_hm {e l t:Int} (h:stB (e,l,t,())=true):hmB t=true:=by
 unfold stB at h
 simp only [Bool.and_eq_true] at h
 exact h.2.2
theorem knnS_ok:FspOk Tryz.prog 11 knnS:=tower_Y fsK4_ok spK_ok ⟨Tryz.func11,fun _ _=>by kernel_rfl⟩ (by intro α args k; unfold knnS; split<;>rfl) fun args out hSm hEq=>by
 unfold knnS at hEq
 split at hEq
 ·rename_i e l t p
  replace hEq:=(congrArg some (nnO_eq e l t p)).trans hEq
  refine ⟨12,30,((knn_text 12 0 AOut e l t p some).trans ?_).trans hEq⟩
  unfold nnO ptB
  cases hs:stB (e,l,t,())
  ·rfl
  show (bif decide (-8≤p) then bif !decide (p≤8) then _ else bif e==0 then _ else bif hmB t then _ else none else _)=_
  rw [stB_hm hs]
  cases decide (-8≤p)
  ·rfl
  cases decide (p≤8)
  ·rfl
  show _=some (bif e==0 then _ else _)
  cases e==0<;>rfl
 ·cases hEq
noncomputable def fsK5:FuncId→Option Fsp:=fun g=>
 if g=11 then some knnS else
 fsK4 g
theorem fsK5_ok:FsOk fsK5:=
 fs_cons knnS_ok <|
 fsK4_ok
def rsB (d:Int) (A B:List (List Int)) (e l t:Int):Bool:=rvB (d,A,B)&&stB (e,l,t,())
theorem rs_parts {β:Type} (d:Int) (A B:List (List Int)) (e l t:Int) (X Y:β):(bif (bif rvB (d,A,B) then (0:Int) else 2)==0 then bif !(bif stB (e,l,t,()) then (0:Int) else 2)==0 then X else Y else X)=bif rsB d A B e l t then Y else X:=by
 unfold rsB
 cases rvB (d,A,B)
 ·rfl
 cases stB (e,l,t,())<;>rfl
theorem hpD_nil {d:Int} {A B:List (List Int)} {s:GsI} (hr:rvB (d,A,B)=true) (hs:stB s=true) {M:MpI} (hg:gdB (d,A,B) M=true):hpD 13 (d,A,B) s M=true:=by
 unfold hpD
 rw [hr,hs,hg,decide_eq_true (show s.1 < ((13:Nat):Int) by have:=(stB_in hs).1; omega)]
 rfl
/-! Value. -/
def vaO' (d:Int) (A B:List (List Int)) (e l t:Int):AOut:=bif rsB d A B e l t then .ret (.tup [hpA (hv (d,A,B) (e,l,t,())).1 (hv (d,A,B) (e,l,t,())).2.1,.int .i64 0]) else .ret (.tup [hpA 0 0,.int .i64 2])
def rsE (d:Int) (A B:List (List Int)) (e l t:Int):Int:=bif rsB d A B e l t then 0 else 2
def vaL (d:Int) (A B:List (List Int)) (e l t:Int):Int:=bif rsB d A B e l t then (hv (d,A,B) (e,l,t,())).1 else 0
def vaH (d:Int) (A B:List (List Int)) (e l t:Int):Int:=bif rsB d A B e l t then (hv (d,A,B) (e,l,t,())).2.1 else 0
theorem vaO_eq (d:Int) (A B:List (List Int)) (e l t:Int):vaO' d A B e l t=.ret (.tup [hpA (vaL d A B e l t) (vaH d A B e l t),.int .i64 (rsE d A B e l t)]):=by
 unfold vaO' rsE vaL vaH
 cases rsB d A B e l t<;>rfl
theorem kva_text (N n0:Nat) (α:Type) (d:Int) (A B:List (List Int)) (e l t:Int) (k:AOut→Option α):evFn real tab ((twY fsK5 spK).env real tab N (n0 + 30)) N Tryz.f12 α [.agg [.int .i64 d,.ro LsSh A,.ro LsSh B],.agg [.int .i64 e,.int .i64 l,.int .i64 t]] k =
 bif (bif rvB (d,A,B) then (0:Int) else 2)==0 then bif !(bif stB (e,l,t,()) then (0:Int) else 2)==0 then k (.ret (.tup [hpA 0 0,.int .i64 2])) else bif hpD 13 (d,A,B)
 (e,l,t,()) [] then k (.ret (.tup [hpA (hv (d,A,B) (e,l,t,())).1 (hv (d,A,B) (e,l,t,())).2.1,.int .i64 0])) else none else k (.ret (.tup [hpA 0 0,.int .i64 2])):=by
 kernel_rfl
noncomputable def kvaS:Fsp:=fun _ args k=>match args with
 | [.agg [.int .i64 d,.ro (.sl (.int .i64)) A,.ro (.sl (.int .i64)) B],.agg [.int .i64 e,.int .i64 l,.int .i64 t]]=>k (.ret (.tup [hpA (vaL d A B e l t) (vaH d A B e l t),.int .i64 (rsE d A B e l t)]))
 | _=>none
theorem kvaS_ok:FspOk Tryz.prog 12 kvaS:=tower_Y fsK5_ok spK_ok ⟨Tryz.func12,fun _ _=>by kernel_rfl⟩ (by intro α args k; unfold kvaS; split<;>rfl) fun args out hSm hEq=>by
 unfold kvaS at hEq
 split at hEq
 ·rename_i d A B e l t
  replace hEq:=(congrArg some (vaO_eq d A B e l t)).trans hEq
  refine ⟨20,30,((kva_text 20 0 AOut d A B e l t some).trans ((rs_parts d A B e l t _ _).trans ?_)).trans hEq⟩
  unfold vaO'
  cases hr:rsB d A B e l t
  ·rfl
  unfold rsB at hr
  rw [Bool.and_eq_true] at hr
  rw [hpD_nil hr.1 hr.2 rfl]
  rfl
 ·cases hEq
/-! Blank. -/
def bkG (r:RvI) (e l t p:Int):HpI:=hv r (nxG e l t p)
def bkP (r:RvI) (e l t:Int):HpI:=bif t==1 then bkG r e l t 1 else bkG r e l t 0
def bkQ (r:RvI) (e l t:Int):HpI:=bif t==1 then bkG r e l t 0 else bkG r e l t 1
def bkL (r:RvI) (e l t:Int):Int:=IntKind.i64.wrap ((bkP r e l t).1 - (bkQ r e l t).2.1)
def bkH (r:RvI) (e l t:Int):Int:=IntKind.i64.wrap ((bkP r e l t).2.1 - (bkQ r e l t).1)
def bkW (a b:Int):Int:=bif decide (a > 0) then 1 else bif decide (b < 0) then -1 else 0
def bkX (e:Int):AOut:=.ret (.tup [.int .i64 0,.int .i64 0,.int .i64 0,.int .i64 e])
def bkO (d:Int) (A B:List (List Int)) (e l t:Int):AOut:=bif rsB d A B e l t then bif e==0 then bkX 9 else .ret (.tup [.int .i64 (bkL (d,A,B) e l t),.int .i64 (bkH (d,A,B) e l t),.int .i64 (bkW (bkL (d,A,B) e l t) (bkH (d,A,B) e l t)),.int .i64 0]) else bkX 2
def bkB (d:Int) (A B:List (List Int)) (e l t:Int):Bool:=rsB d A B e l t&&!(e==0)
def bqL (d:Int) (A B:List (List Int)) (e l t:Int):Int:=bif bkB d A B e l t then bkL (d,A,B) e l t else 0
def bqH (d:Int) (A B:List (List Int)) (e l t:Int):Int:=bif bkB d A B e l t then bkH (d,A,B) e l t else 0
def bqW (d:Int) (A B:List (List Int)) (e l t:Int):Int:=bif bkB d A B e l t then bkW (bkL (d,A,B) e l t) (bkH (d,A,B) e l t) else 0
def bqE (d:Int) (A B:List (List Int)) (e l t:Int):Int:=bif rsB d A B e l t then bif e==0 then 9 else 0 else 2
theorem bkO_eq (d:Int) (A B:List (List Int)) (e l t:Int):bkO d A B e l t=.ret (.tup [.int .i64 (bqL d A B e l t),.int .i64 (bqH d A B e l t),.int .i64 (bqW d A B e l t),.int .i64 (bqE d A B e l t)]):=by
 unfold bkO bqL bqH bqW bqE bkB
 cases rsB d A B e l t
 ·rfl
 cases e==0<;>rfl
def bkT {α:Type} (a b:Int) (k:AOut→Option α):Option α:=bif decide (a > 0) then k (.ret (.tup [.int .i64 a,.int .i64 b,.int .i64 1,.int .i64 0])) else bif decide (b < 0) then k (.ret (.tup [.int .i64 a,.int .i64 b,.int .i64 (-1),.int .i64 0])) else k (.ret (.tup [.int .i64 a,.int .i64 b,.int .i64 0,.int .i64 0]))
theorem kbk_text (N n0:Nat) (α:Type) (d:Int) (A B:List (List Int)) (e l t:Int) (k:AOut→Option α):evFn real tab ((twY fsK5 spK).env real tab N (n0 + 30)) N Tryz.f16 α [.agg [.int .i64 d,.ro LsSh A,.ro LsSh B],.agg [.int .i64 e,.int .i64 l,.int .i64 t]] k =
 bif (bif rvB (d,A,B) then (0:Int) else 2)==0 then bif !(bif stB (e,l,t,()) then (0:Int) else 2)==0 then k (bkX 2) else bif e==0 then k (bkX 9) else bif hmB t then bif
 hpD 13 (d,A,B) (nxG e l t 0) [] then bif hmB t then bif hpD 13 (d,A,B) (nxG e l t 1) (wv (d,A,B) (nxG e l t 0) []) then bif t==1 then bkT (IntKind.i64.wrap ((bkG (d,A,B) e
 l t 1).1 - (bkG (d,A,B) e l t 0).2.1)) (IntKind.i64.wrap ((bkG (d,A,B) e l t 1).2.1 - (bkG (d,A,B) e l t 0).1)) k else bkT (IntKind.i64.wrap ((bkG (d,A,B) e l t 0).1 - (bkG
 (d,A,B) e l t 1).2.1)) (IntKind.i64.wrap ((bkG (d,A,B) e l t 0).2.1 - (bkG (d,A,B) e l t 1).1)) k else none else none else none else none else k (bkX 2):=by kernel_rfl
theorem bkT_eq {α:Type} (a b:Int) (k:AOut→Option α):bkT a b k=k (.ret (.tup [.int .i64 a,.int .i64 b,.int .i64 (bkW a b),.int .i64 0])):=by
 unfold bkT bkW
 cases decide (a > 0)
 ·cases decide (b < 0)<;>rfl
 ·rfl
noncomputable def kbkS:Fsp:=fun _ args k=>match args with
 | [.agg [.int .i64 d,.ro (.sl (.int .i64)) A,.ro (.sl (.int .i64)) B],.agg [.int .i64 e,.int .i64 l,.int .i64 t]]=>k (.ret (.tup [.int .i64 (bqL d A B e l t),.int .i64 (bqH d A B e l t),.int .i64 (bqW d A B e l t),.int .i64 (bqE d A B e l t)]))
 | _=>none
theorem kbkS_ok:FspOk Tryz.prog 16 kbkS:=tower_Y fsK5_ok spK_ok ⟨Tryz.func16,fun _ _=>by kernel_rfl⟩ (by intro α args k; unfold kbkS; split<;>rfl) fun args out hSm hEq=>by
 unfold kbkS at hEq
 split at hEq
 ·rename_i d A B e l t
  replace hEq:=(congrArg some (bkO_eq d A B e l t)).trans hEq
  refine ⟨20,30,((kbk_text 20 0 AOut d A B e l t some).trans ((rs_parts d A B e l t _ _).trans ?_)).trans hEq⟩
  unfold bkO
  cases hr:rsB d A B e l t
  ·rfl
  rw [cond_true,cond_true]
  unfold rsB at hr
  rw [Bool.and_eq_true] at hr
  cases he:e==0
  case true=>rfl
  have h0:0 < e:=by
   have:=(stB_in hr.2).1.1
   have:e≠0:=beq_eq_false_iff_ne.1 he
   simp only at *
   omega
  rw [cond_false,cond_false,stB_hm hr.2,hpD_nil hr.1 (nx_st hr.2 h0) rfl,hpD_nil hr.1 (nx_st hr.2 h0) (gd_wv _ _ rfl),cond_true,cond_true,cond_true,cond_true,bkT_eq,bkT_eq]
  unfold bkL bkH bkP bkQ
  cases t==1<;>rfl
 ·cases hEq
/-! The best one. -/
def beF {α:Type} (q:HpI→HpI→Bool) (H:List HpI) (x:Int × Int × Unit):Option (LRes (Int × Int × Unit) α):=
 bif decide (x.2.1 < (H.length:Int)) then
  if 0≤x.2.1∧x.2.1 < (H.length:Int) then if 0≤x.1∧x.1 < (H.length:Int) then
   bif q (H.getD x.2.1.toNat (0,0,())) (H.getD x.1.toNat (0,0,())) then some (.cont (x.2.1,IntKind.i64.wrap (x.2.1 + 1),())) else some (.cont (x.1,IntKind.i64.wrap (x.2.1 + 1),()))
  else none else none
 else some (.brk 0 (x.1,x.2.1,()))
noncomputable def fsK6:FuncId→Option Fsp:=fun g=>
 if g=12 then some kvaS else
 if g=16 then some kbkS else
 fsK5 g
theorem fsK6_ok:FsOk fsK6:=
 fs_cons kvaS_ok <|
 fs_cons kbkS_ok <|
 fsK5_ok
noncomputable def fsK7:FuncId→Option Fsp:=fun g=>
 fsK6 g
theorem fsK7_ok:FsOk fsK7:=
 fsK6_ok
def rcF {α:Type} (c:List Int) (k:AOut→Option α) (x:Int × Unit):Option (LRes (Int × Unit) α):=
 bif decide (x.1 < (c.length:Int)) then
  if 0≤x.1∧x.1 < (c.length:Int) then
   bif decide (0≤c.getD x.1.toNat 0) then bif !decide (c.getD x.1.toNat 0≤1000000) then finL (k (b1 false)) else some (.cont (IntKind.i64.wrap (x.1 + 1),()))
   else finL (k (b1 false))
  else none
 else some (.brk 0 (x.1,()))
theorem rco_text (N n0:Nat) (α:Type) (c:List Int) (k:AOut→Option α):evFn real tab ((twY fsK7 spK).env real tab N (n0 + 30)) N Tryz.f111 α [.ro (.int .i64) c] k =
 afterL (iterL N (rcF c k) (0,())) fun id _=>if id=0 then bif decide (1≤(c.length:Int)) then k (b1 (decide ((c.length:Int)≤49))) else k (b1 false) else none:=by
 kernel_rfl
theorem rco_plain {α:Type} (c:List Int) (hmx:c.length≤maxLen) (k:AOut→Option α):(afterL (iterL (c.length + 1) (rcF c k) (0,())) fun id _=>if id=0 then bif decide (1≤(c.length:Int)) then k (b1 (decide ((c.length:Int)≤49))) else k (b1 false) else none)=k (b1 (cntW c)):=by
 refine (any_loop' (f:=rcF c k) (fun i:Nat=>((i:Int),())) c.length (fun i=>!cnO (c.getD i 0)) (k (b1 false)) (fun i hi=>?_) (y:=((c.length:Int),())) (b:=0) ?_ (by omega)).trans ?_
 ·unfold rcF cnO
  simp only [lt_len hi,cond_true,in_len hi,if_pos,and_self,decide_true,Int.toNat_natCast,wrap_next hi hmx]
  cases decide (0≤c.getD i 0)<;>cases decide (c.getD i 0≤1000000)<;>rfl
 ·unfold rcF
  simp only [not_lt_len,cond_false]
 ·rw [if_pos rfl]
  unfold cntW
  rw [show decide (1≤(c.length:Int))=decide (1≤c.length) from decide_eq_decide.2 (by omega),show decide ((c.length:Int)≤49)=decide (c.length≤49) from decide_eq_decide.2 (by omega)]
  cases (List.range c.length).any fun i=>!cnO (c.getD i 0)
  ·cases decide (1≤c.length)
   ·rfl
   cases decide (c.length≤49)<;>rfl
  ·cases decide (1≤c.length)
   ·rfl
   cases decide (c.length≤49)<;>rfl
noncomputable def rcoS:Fsp:=fun _ args k=>match args with
 | [.ro (.int .i64) c]=>k (b1 (cntW c))
 | _=>none
theorem rcoS_ok:FspOk Tryz.prog 111 rcoS:=tower_Y fsK7_ok spK_ok ⟨Tryz.func111,fun _ _=>by kernel_rfl⟩ (by intro α args k; unfold rcoS; split<;>rfl) fun args out hSm hEq=>by
 unfold rcoS at hEq
 split at hEq
 ·rename_i c
  have hl:List.length (α:=Int) c≤maxLen:=(hSm _ (.head _)).len
  exact ⟨List.length (α:=Int) c + 1,30,((rco_text _ 0 AOut c some).trans (rco_plain c hl some)).trans hEq⟩
 ·cases hEq
theorem rst_text (N n0:Nat) (α:Type) (e l t:Int) (k:AOut→Option α):evFn real tab ((twY fsK7 spK).env real tab N (n0 + 30)) N Tryz.f66 α [.agg [.int .i64 e,.int .i64 l,.int .i64 t]] k =
 bif decide (0≤e) then bif decide (e≤12) then bif decide (-96≤l) then bif decide (l≤96) then bif decide (0≤t) then k (b1 (decide (t≤1))) else k (b1 false) else k (b1
 false) else k (b1 false) else k (b1 false) else k (b1 false):=by kernel_rfl
noncomputable def rstS:Fsp:=fun _ args k=>match args with
 | [.agg [.int .i64 e,.int .i64 l,.int .i64 t]]=>k (b1 (stB (e,l,t,())))
 | _=>none
theorem rstS_ok:FspOk Tryz.prog 66 rstS:=tower_Y fsK7_ok spK_ok ⟨Tryz.func66,fun _ _=>by kernel_rfl⟩ (by intro α args k; unfold rstS; split<;>rfl) fun args out hSm hEq=>by
 unfold rstS at hEq
 split at hEq
 ·rename_i e l t
  refine ⟨12,30,((rst_text 12 0 AOut e l t some).trans ?_).trans hEq⟩
  unfold stB
  rw [← hm_dec]
  simp only []
  cases decide (0≤e)
  ·rfl
  cases decide (e≤12)
  ·rfl
  cases decide (-96≤l)
  ·rfl
  cases decide (l≤96)
  ·rfl
  cases decide (0≤t)
  ·rfl
  cases decide (t≤1)<;>rfl
 ·cases hEq
noncomputable def fsT1:FuncId→Option Fsp:=fun g=>
 if g=111 then some rcoS else
 if g=66 then some rstS else
 fsK7 g
theorem fsT1_ok:FsOk fsT1:=
 fs_cons rcoS_ok <|
 fs_cons rstS_ok <|
 fsK7_ok
end Go.Proofs.YtbkpklfjoifdbaaGreat
namespace Go.Proofs.YtbkpklfjoifdbaaGreat
def sel2 {β:Type} (A B:β) {α:Type} (x:Int) (f:β→Option α):Option α:=
 if 0≤x∧x < ((2:Nat):Int) then bif x==((0:Nat):Int) then f A else bif x==((0 + 1:Nat):Int) then f B else none else none
theorem sel2_eq {β:Type} (A B:β) {α:Type} (i:Nat) (hi:i < 2) (f:β→Option α):sel2 A B (i:Int) f=f ([A,B].getD i A):=by
 match i,hi with
 | 0,_=>rfl
 | 1,_=>rfl
open Go.RowKit
def rrG {α:Type} (L:List (List Int)) (R:Option α) (x:Int × Unit):Option (LRes (Int × Unit) α):=
 bif decide (x.1 < (L.length:Int)) then
  if 0≤x.1∧x.1 < (L.length:Int) then
   bif !cntW (L.getD x.1.toNat []) then finL R else
   if 0≤x.1∧x.1 < (L.length:Int) then bif ((L.getD x.1.toNat []).length:Int) != 17 then finL R else some (.cont (IntKind.i64.wrap (x.1 + 1),())) else none
  else none
 else some (.brk 2 (x.1,()))
def rr1 {α:Type} (N:Nat) (L:List (List Int)) (R E:Option α):Option α:=
 bif decide (1≤(L.length:Int)) then bif !decide ((L.length:Int)≤8) then R else afterL (iterL N (rrG L R) (0,())) fun id _=>if id=2 then E else none else R
def rrF {α:Type} (N:Nat) (A B:List (List Int)) (R:Option α) (x:Int × Unit):Option (LRes (Int × Unit) α):=
 bif decide (x.1 < 2) then sel2 A B x.1 fun L=>rr1 N L (finL R) (some (.cont (IntKind.i64.wrap (x.1 + 1),()))) else some (.brk 0 (x.1,()))
def rrT {α:Type} (N:Nat) (d:Int) (A B:List (List Int)) (k:AOut→Option α):Option α:=
 afterL (iterL N (rrF N A B (k (b1 false))) (0,())) fun id _=>if id=0 then bif decide (1≤d) then k (b1 (decide (d≤1000))) else k (b1 false) else none
set_option maxRecDepth 100000 in
theorem rrv_text (N n0:Nat) (α:Type) (d:Int) (A B:List (List Int)) (k:AOut→Option α):evFn real tab ((twY fsT1 spK).env real tab N (n0 + 30)) N Tryz.f65 α [.agg [.int .i64 d,.ro LsSh A,.ro LsSh B]] k=rrT N d A B k:=by kernel_rfl
theorem rr1_eq {α:Type} {N:Nat} (hN:9 < N) (L:List (List Int)) (R E:Option α):rr1 N L R E=bif rv1 L then E else R:=by
 unfold rr1 rv1
 by_cases h1:1≤L.length
 case neg=>rw [decide_eq_false (show ¬ 1≤(L.length:Int) by omega),decide_eq_false h1]; rfl
 by_cases h8:L.length≤8
 case neg=>rw [decide_eq_true (show 1≤(L.length:Int) by omega),decide_eq_false (show ¬ (L.length:Int)≤8 by omega),decide_eq_true h1,decide_eq_false h8]; rfl
 rw [decide_eq_true (show 1≤(L.length:Int) by omega),decide_eq_true (show (L.length:Int)≤8 by omega),decide_eq_true h1,decide_eq_true h8]
 have hmx:L.length≤maxLen:=by have:maxLen=9223372036854775807:=rfl; omega
 refine (any_loop' (f:=rrG L R) (fun i:Nat=>((i:Int),())) L.length (fun i=>!c17 (L.getD i [])) R (fun i hi=>?_) (y:=((L.length:Int),())) (b:=2) ?_ (by omega)).trans ?_
 ·unfold rrG c17
  simp only [lt_len hi,cond_true,in_len hi,if_pos,and_self,decide_true,Int.toNat_natCast,wrap_next hi hmx,bne]
  cases cntW (L.getD i [])
  ·rfl
  cases ((L.getD i []).length:Int)==17<;>rfl
 ·unfold rrG
  simp only [not_lt_len,cond_false]
 ·rw [if_pos rfl,c17_all]
  show _=bif true&&(true&&_) then E else R
  rw [Bool.true_and,Bool.true_and]
  cases L.all fun c=>cntW c&&decide (c.length=17)<;>rfl
theorem rrT_eq {α:Type} {N:Nat} (hN:9 < N) (d:Int) (A B:List (List Int)) (k:AOut→Option α):rrT N d A B k=k (b1 (rvB (d,A,B))):=by
 unfold rrT
 refine (any_loop' (f:=rrF N A B (k (b1 false))) (fun i:Nat=>((i:Int),())) 2 (fun i=>!rv1 ([A,B].getD i A)) (k (b1 false)) (fun i hi=>?_) (y:=(2,())) (b:=0) ?_ (by omega)).trans ?_
 ·unfold rrF
  simp only []
  rw [decide_eq_true (show (i:Int) < 2 by omega),cond_true,sel2_eq A B i hi,rr1_eq hN,wrap_next (show i < 2 by omega) (by decide)]
  cases rv1 ([A,B].getD i A)<;>rfl
 ·rfl
 ·rw [if_pos rfl]
  show (bif (!rv1 A || (!rv1 B || false)) then _ else _)=_
  unfold rvB
  cases rv1 A
  ·rfl
  cases rv1 B
  ·rfl
  show (bif decide (1≤d) then k (b1 (decide (d≤1000))) else k (b1 false))=k (b1 (decide (1≤d)&&decide (d≤1000)))
  cases decide (1≤d)<;>rfl
noncomputable def rrvS:Fsp:=fun _ args k=>match args with
 | [.agg [.int .i64 d,.ro (.sl (.int .i64)) A,.ro (.sl (.int .i64)) B]]=>k (b1 (rvB (d,A,B)))
 | _=>none
theorem rrvS_ok:FspOk Tryz.prog 65 rrvS:=tower_Y fsT1_ok spK_ok ⟨Tryz.func65,fun _ _=>by kernel_rfl⟩ (by intro α args k; unfold rrvS; split<;>rfl) fun args out hSm hEq=>by
 unfold rrvS at hEq
 split at hEq
 ·rename_i d A B
  exact ⟨12,30,((rrv_text 12 0 AOut d A B some).trans (rrT_eq (by decide) d A B some)).trans hEq⟩
 ·cases hEq
/-! next -/
def rxA (e l t p:Int):AOut:=bif t==1 then bif decide (p > 0) then .ret (nxA (IntKind.i64.wrap (e - 1)) (clL (IntKind.i64.wrap (l + IntKind.i64.wrap (0 - p)))) (IntKind.i64.wrap (1 - t))) else .ret (nxA (IntKind.i64.wrap (e - 1)) (clL (IntKind.i64.wrap (l + IntKind.i64.wrap (0 - p)))) t)
 else bif decide (p > 0) then .ret (nxA (IntKind.i64.wrap (e - 1)) (clL (IntKind.i64.wrap (l + p))) (IntKind.i64.wrap (1 - t))) else .ret (nxA (IntKind.i64.wrap (e - 1)) (clL (IntKind.i64.wrap (l + p))) t)
theorem rnx_text (N n0:Nat) (α:Type) (e l t p:Int) (k:AOut→Option α):evFn real tab ((twY fsT1 spK).env real tab N (n0 + 30)) N Tryz.f71 α [.agg [.int .i64 e,.int .i64 l,.int .i64 t],.int .i64 p] k =
 bif t==1 then bif decide (p > 0) then k (.ret (nxA (IntKind.i64.wrap (e - 1)) (clL (IntKind.i64.wrap (l + IntKind.i64.wrap (0 - p)))) (IntKind.i64.wrap (1 - t)))) else k (.ret
 (nxA (IntKind.i64.wrap (e - 1)) (clL (IntKind.i64.wrap (l + IntKind.i64.wrap (0 - p)))) t)) else bif decide (p > 0) then k (.ret (nxA (IntKind.i64.wrap (e - 1)) (clL
 (IntKind.i64.wrap (l + p))) (IntKind.i64.wrap (1 - t)))) else k (.ret (nxA (IntKind.i64.wrap (e - 1)) (clL (IntKind.i64.wrap (l + p))) t)):=by kernel_rfl
theorem rnx_plain {e l t p:Int} (ht:hmB t=true) (hp:ptB p=true):rxA e l t p=.ret (nxA (nxE e) (nxL l t p) (nxT t p)):=by
 unfold hmB at ht
 unfold ptB at hp
 rw [Bool.or_eq_true,beq_iff_eq,beq_iff_eq] at ht
 simp only [Bool.and_eq_true,decide_eq_true_eq] at hp
 unfold rxA nxE nxL nxT
 rcases ht with rfl | rfl
 ·show (bif decide (p > 0) then _ else _)=AOut.ret (nxA _ (clL (IntKind.i64.wrap (l + IntKind.i64.wrap (1 * p)))) _)
  have e1:IntKind.i64.wrap (1 * p)=p:=by rw [IntKind.wrap_i64]; omega
  rw [e1]
  cases decide (p > 0)<;>rfl
 ·show (bif decide (p > 0) then _ else _)=AOut.ret (nxA _ (clL (IntKind.i64.wrap (l + IntKind.i64.wrap (-1 * p)))) _)
  rw [show (-1:Int) * p=0 - p by omega]
  cases decide (p > 0)<;>rfl
noncomputable def rnxS:Fsp:=fun _ args k=>match args with
 | [.agg [.int .i64 e,.int .i64 l,.int .i64 t],.int .i64 p]=>bif hmB t&&ptB p then k (.ret (nxA (nxE e) (nxL l t p) (nxT t p))) else none
 | _=>none
theorem rnxS_ok:FspOk Tryz.prog 71 rnxS:=tower_Y fsT1_ok spK_ok ⟨Tryz.func71,fun _ _=>by kernel_rfl⟩ (by intro α args k; unfold rnxS; split<;>simp only [cond_bind,Option.bind_some,Option.bind_none]) fun args out hSm hEq=>by
 unfold rnxS at hEq
 split at hEq
 ·rename_i e l t p
  cases hc:hmB t&&ptB p
  ·rw [hc] at hEq; cases hEq
  ·rw [hc] at hEq
   rw [Bool.and_eq_true] at hc
   refine ⟨12,30,((rnx_text 12 0 AOut e l t p some).trans ?_).trans hEq⟩
   have h:=rnx_plain (e:=e) (l:=l) hc.1 hc.2
   unfold rxA at h
   rw [cond_true,← h]
   cases t==1<;>cases decide (p > 0)<;>rfl
 ·cases hEq
noncomputable def fsT2:FuncId→Option Fsp:=fun g=>
 if g=65 then some rrvS else
 if g=71 then some rnxS else
 fsT1 g
theorem fsT2_ok:FsOk fsT2:=
 fs_cons rrvS_ok <|
 fs_cons rnxS_ok <|
 fsT1_ok
/-! Next, CheckRivals, CheckState. -/
noncomputable def fsT3:FuncId→Option Fsp:=fun g=>
 fsT2 g
theorem fsT3_ok:FsOk fsT3:=
 fsT2_ok
end Go.Proofs.YtbkpklfjoifdbaaGreat
namespace Go.Proofs.YtbkpklfjoifdbaaGreat
theorem mul_in {a b A B:Int} (ha:0≤a∧a≤A) (hb:0≤b∧b≤B):0≤a * b∧a * b≤A * B:=⟨Int.mul_nonneg ha.1 hb.1,Int.mul_le_mul ha.2 hb.2 hb.1 (by omega)⟩
open Go.RowKit
theorem rndP_small {how n d:Int} {neg:Bool} (h0:0≤n) (hd:0 < d) (h:n / d < 18446744073709551614):rndP how neg n d=rnd how neg n d:=by
 have h1:=Int.ediv_nonneg h0 (Int.le_of_lt hd)
 unfold rndP
 rw [decide_eq_true (by omega),cond_true]
 unfold rnd
 cases up1 how neg (n % d) d<;>simp only [cond_true,cond_false]<;>omega
theorem rnd_down {s d:Int} (hd:0 < d):sg (ngB s) (rnd 1 (ngB s) (ab s) d)=s / d:=by
 unfold rnd up1 sg ngB ab
 have e1:=Int.emod_add_mul_ediv s d
 have e2:=Int.emod_nonneg s (show d≠0 by omega)
 have e3:=Int.emod_lt_of_pos s hd
 by_cases h:s < 0
 ·rw [decide_eq_true h,if_pos h]
  simp only [cond_true,if_pos rfl,Bool.and_true]
  have f1:=Int.emod_add_mul_ediv (-s) d
  have f2:=Int.emod_nonneg (-s) (show d≠0 by omega)
  have f3:=Int.emod_lt_of_pos (-s) hd
  by_cases hz:(-s) % d=0
  ·rw [hz,decide_eq_false (by omega)]
   simp only [Bool.false_and,cond_false]
   have hs:s % d=0:=by
    have:=Int.emod_emod_of_dvd s (Int.dvd_refl d)
    exact (Int.emod_eq_zero_of_dvd (by have:=Int.dvd_of_emod_eq_zero hz; exact (Int.dvd_neg).1 this))
   have:d * (-s / d) + d * (s / d)=0:=by omega
   have:d * (-s / d + s / d)=0:=by rw [Int.mul_add]; omega
   have:=(Int.mul_eq_zero.1 this).resolve_left (by omega)
   omega
  ·rw [decide_eq_true (by omega)]
   simp only [ite_true,Bool.true_and,cond_true]
   have hs:s % d≠0:=fun hs=>hz (Int.emod_eq_zero_of_dvd ((Int.dvd_neg).2 (Int.dvd_of_emod_eq_zero hs)))
   have h1:d * (-s / d + s / d)=-((-s) % d) - s % d:=by rw [Int.mul_add]; omega
   have h2:-s / d + s / d=-1:=by
    have a:-s / d + s / d < 0:=by
     rcases Int.lt_or_le (-s / d + s / d) 0 with q | q
     ·exact q
     ·have:=Int.mul_nonneg (Int.le_of_lt hd) q; omega
    have b:-2 < -s / d + s / d:=by
     rcases Int.lt_or_le (-2) (-s / d + s / d) with q | q
     ·exact q
     ·have:=Int.mul_le_mul_of_nonneg_left q (Int.le_of_lt hd); omega
    omega
   omega
 ·rw [decide_eq_false h,if_neg h]
  simp
theorem i64_in (n:Int) (h:-9223372036854775808≤n∧n≤9223372036854775807):IntKind.i64.wrap n=n:=by rw [IntKind.wrap_i64]; omega
theorem in_dec {a lo hi:Int}:(decide (lo≤a)&&decide (a≤hi))=true↔lo≤a∧a≤hi:=by simp
theorem ab_pos {x:Int} (h:0≤x):ab x=x:=by unfold ab; rw [if_neg (by omega)]
theorem ng_pos {x:Int} (h:0≤x):ngB x=false:=decide_eq_false (by omega)
/-! Folds and sums over places. -/
def foN (op:Int→Int→Int) (v:Nat→Int):Nat→Int
 | 0=>v 0
 | i + 1=>op (foN op v i) (v (i + 1))
def kdoN (c v:Nat→Int):Nat→Int
 | 0=>0
 | i + 1=>kdoN c v i + c i * v i
def smN (c:Nat→Int):Nat→Int
 | 0=>0
 | i + 1=>smN c i + c i
def atL (l:List Int) (i:Nat):Int:=l.getD i 0
def mqL (c v:Nat→Int) (n:Nat) (d:Int):Int:=(d * foN mnI v (n - 1) + kdoN c v n) / (smN c n + d)
def mqH (c v:Nat→Int) (n:Nat) (d:Int):Int:=-((-(d * foN mxI v (n - 1) + kdoN c v n)) / (smN c n + d))
theorem mnV_fo (op:Int→Int→Int) (v:List Int):∀ i,mnV op v i=foN op (atL v) i
 | 0=>rfl
 | i + 1=>by rw [mnV,foN,mnV_fo op v i]; rfl
theorem mxI_or (a b:Int):(a < b∧mxI a b=b)∨(b≤a∧mxI a b=a):=by unfold mxI; split<;>omega
theorem mnI_or (a b:Int):(b < a∧mnI a b=b)∨(a≤b∧mnI a b=a):=by unfold mnI; split<;>omega
theorem kmx_in {B:Int} {v:Nat→Int} {op:Int→Int→Int} (ho:op=mxI∨op=mnI):∀ n,(∀ i,i≤n→0≤v i∧v i≤B)→0≤foN op v n∧foN op v n≤B
 | 0,h=>h 0 (Nat.le_refl _)
 | n + 1,h=>by
   have h1:=kmx_in ho n fun i hi=>h i (by omega)
   have h2:=h (n + 1) (Nat.le_refl _)
   rw [foN]
   rcases ho with rfl | rfl
   ·rcases mxI_or (foN mxI v n) (v (n + 1)) with ⟨_,e⟩ | ⟨_,e⟩<;>rw [e]<;>omega
   ·rcases mnI_or (foN mnI v n) (v (n + 1)) with ⟨_,e⟩ | ⟨_,e⟩<;>rw [e]<;>omega
theorem mul_nn {a b c:Int} (h1:0≤a) (h2:0≤b) (h3:a≤c) {B:Int} (h4:b≤B) (h5:0≤B):0≤a * b∧a * b≤c * B:=by
 refine ⟨Int.mul_nonneg h1 h2,?_⟩
 have a1:=Int.mul_le_mul_of_nonneg_left h4 h1
 have a2:=Int.mul_le_mul_of_nonneg_right h3 h5
 omega
theorem do_in {c v:Nat→Int}:∀ n,(∀ i,i < n→(0≤c i∧c i≤1000000)∧0≤v i∧v i≤65536)→0≤kdoN c v n∧kdoN c v n≤65536000000 * (n:Int)
 | 0,_=>⟨Int.le_refl _,Int.le_refl _⟩
 | n + 1,h=>by
   have h1:=do_in n fun i hi=>h i (by omega)
   obtain ⟨h2,h3⟩:=h n (by omega)
   have h4:=mul_nn h2.1 h3.1 h2.2 h3.2 (show (0:Int)≤65536 by omega)
   rw [kdoN]
   omega
theorem sm_in {c:Nat→Int}:∀ n,(∀ i,i < n→0≤c i∧c i≤1000000)→0≤smN c n∧smN c n≤1000000 * (n:Int)
 | 0,_=>⟨Int.le_refl _,Int.le_refl _⟩
 | n + 1,h=>by
   have h1:=sm_in n fun i hi=>h i (by omega)
   have h2:=h n (by omega)
   rw [smN]
   omega
theorem suW_sm {c:List Int} (hc:∀ i,i < 17→0≤atL c i∧atL c i≤1000000):∀ n,n≤17→suW c n=smN (atL c) n
 | 0,_=>rfl
 | n + 1,h=>by
   have h1:=sm_in (c:=atL c) n fun i hi=>hc i (by omega)
   have h2:=hc n (by omega)
   rw [suW,smN,suW_sm hc n (by omega)]
   show IntKind.i64.wrap (smN (atL c) n + atL c n)=_
   rw [IntKind.wrap_i64]; omega
theorem toV_do {c v:List Int} {x:Int} (hx:0≤x∧x≤65536000) (h:∀ i,i < 17→(0≤atL c i∧atL c i≤1000000)∧0≤atL v i∧atL v i≤65536):∀ n,n≤17→toV c v x n=x + kdoN (atL c) (atL v) n
 | 0,_=>(Int.add_zero x).symm
 | n + 1,hn=>by
   have h1:=do_in (c:=atL c) (v:=atL v) n fun i hi=>h i (by omega)
   obtain ⟨h2,h3⟩:=h n (by omega)
   have h4:=mul_nn h2.1 h3.1 h2.2 h3.2 (show (0:Int)≤65536 by omega)
   rw [toV,kdoN,toV_do hx h n (by omega)]
   show IntKind.i64.wrap (x + kdoN (atL c) (atL v) n + IntKind.i64.wrap (atL c n * atL v n))=_
   rw [i64_in (atL c n * atL v n) (by omega),IntKind.wrap_i64]; omega
/-! The rest's share. -/
theorem rnd_neg (neg:Bool) (n d:Int):rnd 2 neg n d=rnd 1 (!neg) n d:=by
 unfold rnd up1
 simp
theorem rnd_up {s d:Int} (hd:0 < d):sg (ngB s) (rnd 2 (ngB s) (ab s) d)=-((-s) / d):=by
 by_cases h0:s=0
 ·subst h0
  unfold rnd up1 sg ngB ab
  simp
 ·rw [rnd_neg,← rnd_down hd]
  have e1:ngB (-s)=!ngB s:=by
   unfold ngB
   by_cases h:s < 0
   ·rw [decide_eq_true h,decide_eq_false (by omega)]; rfl
   ·rw [decide_eq_false h,decide_eq_true (by omega)]; rfl
  have e2:ab (-s)=ab s:=by unfold ab; split<;>split<;>omega
  rw [e1,e2]
  unfold sg
  cases ngB s<;>simp
theorem rnd_le {s d:Int} (hd:0 < d) (how:Int) (neg:Bool) (h:ab s < d):0≤rnd how neg (ab s) d∧rnd how neg (ab s) d≤1:=by
 have h0:=ab_nn s
 unfold rnd
 rw [Int.ediv_eq_zero_of_lt h0 h]
 cases up1 how neg (ab s % d) d<;>simp
theorem sl_one {s d how:Int} (hw:how=1∨how=2) (hd:0 < d∧d≤2000000000) (h:ab s < d):slV s 1 d how=sg (ngB s) (rnd how (ngB s) (ab s) d):=by
 have h0:=ab_nn s
 have h1:=rnd_le hd.1 how (ngB s) h
 have hab:-2000000000≤s∧s≤2000000000:=by unfold ab at h; split at h<;>omega
 have hg:scG s 1 d=ngB s:=by
  unfold scG
  rw [ng_pos (show (0:Int)≤1 by omega),ng_pos (show 0≤d by omega)]
  unfold xorB
  cases ngB s<;>rfl
 have hP:slP s 1 d how=rnd how (ngB s) (ab s) d:=by
  unfold slP
  rw [hg,ab_pos (show (0:Int)≤1 by omega),ab_pos (show 0≤d by omega),Int.mul_one]
  exact rndP_small h0 hd.1 (by rw [Int.ediv_eq_zero_of_lt h0 h]; omega)
 have hok:slOk s 1 d=true:=by
  unfold slOk
  rw [ok_iff.2 (by omega),rate_iff.2 (by omega),rate_iff.2 (by omega)]; rfl
 have hd0:(d==0)=false:=by simp; omega
 have hf:fxB (rnd how (ngB s) (ab s) d)=true:=by simp only [fxB,decide_eq_true_eq]; omega
 unfold slV
 rw [hok,hd0,hP,hg]
 unfold fxV
 rw [hf]
 rfl
/-! The mean's bounds. -/
structure C17 (c:List Int):Prop where
 w:cntW c=true
 len:c.length=17
structure V17 (v:List Int):Prop where
 len:v.length=17
 bd:∀ i,i < 17→0≤atL v i∧atL v i≤65536
theorem C17.bd {c:List Int} (h:C17 c):∀ i,i < 17→0≤atL c i∧atL c i≤1000000:=fun i hi=>by
 have h1:=h.w
 unfold cntW at h1
 simp only [Bool.and_eq_true,Bool.not_eq_true',List.any_eq_false] at h1
 have:=h1.2.2 i (List.mem_range.2 (by rw [h.len]; exact hi))
 unfold cnO at this
 simpa [atL] using this
theorem mnB_17 {c v:List Int} (hc:C17 c) (hv:V17 v) {d:Int} (hd:1≤d∧d≤1000):mnB c v d=true:=by
 unfold mnB
 have hx:((List.range v.length).any fun i=>!vaO (v.getD i 0))=false:=by
  rw [List.any_eq_false]
  intro i hi
  have:=hv.bd i (by have:=List.mem_range.1 hi; rw [hv.len] at this; exact this)
  unfold atL at this
  unfold vaO
  rw [decide_eq_true (by omega),decide_eq_true (by omega)]
  simp
 rw [hc.w,hx,hc.len,hv.len,decide_eq_true hd.1,decide_eq_true hd.2]
 rfl
theorem meO_17 {op:Int→Int→Int} (ho:op=mxI∨op=mnI) {c v:List Int} (hc:C17 c) (hv:V17 v) {d:Int} (hd:1≤d∧d≤1000):meO op c v d=d * foN op (atL v) 16 + kdoN (atL c) (atL v) 17∧0≤d * foN op (atL v) 16 + kdoN (atL c) (atL v) 17∧d * foN op (atL v) 16 + kdoN (atL c) (atL v) 17≤1200000000000:=by
 have h1:=kmx_in ho 16 (v:=atL v) (B:=65536) fun i hi=>hv.bd i (by omega)
 have h2:=mul_nn (show 0≤d by omega) h1.1 hd.2 h1.2 (show (0:Int)≤65536 by omega)
 have h3:=do_in (c:=atL c) (v:=atL v) 17 fun i hi=>⟨hc.bd i hi,hv.bd i hi⟩
 refine ⟨?_,by omega,by omega⟩
 unfold meO
 rw [mnV_fo,hv.len,hc.len,show (17:Nat) - 1=16 from rfl,i64_in _ (by omega)]
 exact toV_do (by omega) (fun i hi=>⟨hc.bd i hi,hv.bd i hi⟩) 17 (Nat.le_refl _)
theorem meN_17 {c:List Int} (hc:C17 c) {d:Int} (hd:1≤d∧d≤1000):meN c d=smN (atL c) 17 + d∧1≤smN (atL c) 17 + d∧smN (atL c) 17 + d≤17001000:=by
 have h1:=sm_in (c:=atL c) 17 hc.bd
 refine ⟨?_,by omega,by omega⟩
 unfold meN
 rw [hc.len,suW_sm hc.bd 17 (Nat.le_refl _),i64_in _ (by omega)]
theorem me_lo {c v:List Int} (hc:C17 c) (hv:V17 v) {d:Int} (hd:1≤d∧d≤1000):meW mnI 1 c v d=mqL (atL c) (atL v) 17 d:=by
 obtain ⟨e1,x0,x1⟩:=meO_17 (.inr rfl) hc hv hd
 obtain ⟨e2,n0,n1⟩:=meN_17 hc hd
 unfold meW mqL
 rw [e1,e2]
 generalize d * foN mnI (atL v) (17 - 1) + kdoN (atL c) (atL v) 17=X at *
 generalize smN (atL c) 17 + d=n at *
 have m0:=Int.emod_nonneg X (show n≠0 by omega)
 have m1:=Int.emod_lt_of_pos X (show 0 < n by omega)
 have q0:=Int.ediv_nonneg x0 (show 0≤n by omega)
 have q1:X / n≤X:=Int.ediv_le_self n x0
 rw [Int.tdiv_eq_ediv_of_nonneg x0,Int.tmod_eq_emod_of_nonneg x0,sl_one (.inl rfl) (by omega) (by rw [ab_pos m0]; exact m1),rnd_down (by omega),Int.ediv_eq_zero_of_lt m0 m1,i64_in (X / n) (by omega),Int.add_zero,i64_in _ (by omega)]
theorem me_hi {c v:List Int} (hc:C17 c) (hv:V17 v) {d:Int} (hd:1≤d∧d≤1000):meW mxI 2 c v d=mqH (atL c) (atL v) 17 d:=by
 obtain ⟨e1,x0,x1⟩:=meO_17 (.inl rfl) hc hv hd
 obtain ⟨e2,n0,n1⟩:=meN_17 hc hd
 unfold meW mqH
 rw [e1,e2]
 generalize d * foN mxI (atL v) (17 - 1) + kdoN (atL c) (atL v) 17=X at *
 generalize smN (atL c) 17 + d=n at *
 have m0:=Int.emod_nonneg X (show n≠0 by omega)
 have m1:=Int.emod_lt_of_pos X (show 0 < n by omega)
 have q0:=Int.ediv_nonneg x0 (show 0≤n by omega)
 have q1:X / n≤X:=Int.ediv_le_self n x0
 have hs:(-X) / n=(-(X % n)) / n + -(X / n):=by
  rw [← Int.add_mul_ediv_right _ _ (show n≠0 by omega)]
  congr 1
  have:=Int.emod_add_mul_ediv X n
  have e:-(X / n) * n=-(n * (X / n)):=by rw [Int.neg_mul,Int.mul_comm]
  omega
 have r0:-1≤(-(X % n)) / n∧(-(X % n)) / n≤0:=by
  constructor
  ·exact (Int.le_ediv_iff_mul_le (show 0 < n by omega)).2 (by omega)
  ·have:=Int.ediv_le_ediv (show 0 < n by omega) (show -(X % n)≤0 by omega)
   rw [Int.zero_ediv] at this; exact this
 rw [Int.tdiv_eq_ediv_of_nonneg x0,Int.tmod_eq_emod_of_nonneg x0,sl_one (.inr rfl) (by omega) (by rw [ab_pos m0]; exact m1),rnd_up (by omega),i64_in (X / n) (by omega),i64_in _ (by omega),hs]
 omega
theorem meH_17 {c lo hi:List Int} (hc:C17 c) (h1:V17 lo) (h2:V17 hi) {d:Int} (hd:1≤d∧d≤1000):meH c lo hi d=(mqL (atL c) (atL lo) 17 d,mqH (atL c) (atL hi) 17 d,()):=by
 unfold meH
 rw [mnB_17 hc h1 hd,mnB_17 hc h2 hd,me_lo hc h1 hd,me_hi hc h2 hd]
 rfl
/-! What is so of quotients. -/
theorem fo_congr {op:Int→Int→Int} {v w:Nat→Int}:∀ n,(∀ i,i≤n→v i=w i)→foN op v n=foN op w n
 | 0,h=>h 0 (Nat.le_refl _)
 | n + 1,h=>by rw [foN,foN,fo_congr n fun i hi=>h i (by omega),h (n + 1) (Nat.le_refl _)]
theorem do_congr {c v w:Nat→Int}:∀ n,(∀ i,i < n→v i=w i)→kdoN c v n=kdoN c w n
 | 0,_=>rfl
 | n + 1,h=>by rw [kdoN,kdoN,do_congr n fun i hi=>h i (by omega),h n (by omega)]
theorem mqL_congr {c v w:Nat→Int} {d:Int} (h:∀ i,i < 17→v i=w i):mqL c v 17 d=mqL c w 17 d:=by
 unfold mqL
 rw [fo_congr (17 - 1) fun i hi=>h i (by omega),do_congr 17 h]
theorem mqH_congr {c v w:Nat→Int} {d:Int} (h:∀ i,i < 17→v i=w i):mqH c v 17 d=mqH c w 17 d:=by
 unfold mqH
 rw [fo_congr (17 - 1) fun i hi=>h i (by omega),do_congr 17 h]
theorem fo_le {v w:Nat→Int}:∀ n,(∀ i,i≤n→v i≤w i)→foN mnI v n≤foN mxI w n
 | 0,h=>h 0 (Nat.le_refl _)
 | n + 1,h=>by
   have h1:=fo_le n fun i hi=>h i (by omega)
   have h2:=h (n + 1) (Nat.le_refl _)
   rw [foN,foN]
   rcases mnI_or (foN mnI v n) (v (n + 1)) with ⟨_,e⟩ | ⟨_,e⟩<;>rcases mxI_or (foN mxI w n) (w (n + 1)) with ⟨_,e'⟩ | ⟨_,e'⟩<;>rw [e,e']<;>omega
theorem do_mono {c v w:Nat→Int}:∀ n,(∀ i,i < n→0≤c i∧v i≤w i)→kdoN c v n≤kdoN c w n
 | 0,_=>Int.le_refl _
 | n + 1,h=>by
   have h1:=do_mono n fun i hi=>h i (by omega)
   have h2:=h n (by omega)
   have:=Int.mul_le_mul_of_nonneg_left h2.2 h2.1
   rw [kdoN,kdoN]
   omega
theorem do_top {c v:Nat→Int}:∀ n,(∀ i,i < n→0≤c i∧v i≤65536)→kdoN c v n≤65536 * smN c n
 | 0,_=>Int.le_refl _
 | n + 1,h=>by
   have h1:=do_top n fun i hi=>h i (by omega)
   have h2:=h n (by omega)
   have:=Int.mul_le_mul_of_nonneg_left h2.2 h2.1
   rw [kdoN,smN]
   omega
theorem floor_ceil {X n:Int} (hn:0 < n):X / n≤-((-X) / n):=by
 have h1:=Int.ediv_mul_le X (show n≠0 by omega)
 have h2:=Int.ediv_mul_le (-X) (show n≠0 by omega)
 have h3:(X / n + (-X) / n) * n≤0:=by rw [Int.add_mul]; omega
 have:X / n + (-X) / n≤0:=by
  rcases Int.lt_or_le 0 (X / n + (-X) / n) with h | h
  ·have:=Int.mul_pos h hn; omega
  ·exact h
 omega
theorem mq_le {c v w:Nat→Int} {d:Int} (hc:∀ i,i < 17→0≤c i∧c i≤1000000) (hd:1≤d∧d≤1000) (h:∀ i,i < 17→v i≤w i):mqL c v 17 d≤mqH c w 17 d:=by
 have s:=sm_in 17 hc
 have f:=fo_le (17 - 1) fun i hi=>h i (by omega)
 have g:=do_mono 17 fun i hi=>⟨(hc i hi).1,h i hi⟩
 have m:=Int.mul_le_mul_of_nonneg_left f (show 0≤d by omega)
 exact Int.le_trans (Int.ediv_le_ediv (by omega) (show _≤d * foN mxI w (17 - 1) + kdoN c w 17 by omega)) (floor_ceil (by omega))
theorem mqL_nn {c v:Nat→Int} {d:Int} (hc:∀ i,i < 17→0≤c i∧c i≤1000000) (hd:1≤d∧d≤1000) (h:∀ i,i < 17→0≤v i∧v i≤65536):0≤mqL c v 17 d:=by
 have s:=sm_in 17 hc
 have f:=kmx_in (.inr rfl) (17 - 1) (v:=v) (B:=65536) fun i hi=>h i (by omega)
 have g:=do_in 17 fun i hi=>⟨hc i hi,h i hi⟩
 have m:=Int.mul_nonneg (show 0≤d by omega) f.1
 exact Int.ediv_nonneg (by omega) (by omega)
theorem mqH_top {c v:Nat→Int} {d:Int} (hc:∀ i,i < 17→0≤c i∧c i≤1000000) (hd:1≤d∧d≤1000) (h:∀ i,i < 17→0≤v i∧v i≤65536):mqH c v 17 d≤65536:=by
 have s:=sm_in 17 hc
 have f:=kmx_in (.inl rfl) (17 - 1) (v:=v) (B:=65536) fun i hi=>h i (by omega)
 have g:=do_top 17 fun i hi=>⟨(hc i hi).1,(h i hi).2⟩
 have m:=Int.mul_le_mul_of_nonneg_left f.2 (show 0≤d by omega)
 unfold mqH
 have:-65536≤(-(d * foN mxI v (17 - 1) + kdoN c v 17)) / (smN c 17 + d):=(Int.le_ediv_iff_mul_le (by omega)).2 (by omega)
 omega
def v17B (v:List Int):Bool:=decide (v.length=17)&&(List.range 17).all fun i=>decide (0≤v.getD i 0)&&decide (v.getD i 0≤65536)
def m17B (c v:List Int) (d:Int):Bool:=(cntW c&&decide (c.length=17))&&(v17B v&&(decide (1≤d)&&decide (d≤1000)))
theorem v17_of {v:List Int} (h:v17B v=true):V17 v:=by
 unfold v17B at h
 simp only [Bool.and_eq_true,decide_eq_true_eq,List.all_eq_true,List.mem_range] at h
 exact ⟨h.1,h.2⟩
theorem v17_to {v:List Int} (h:V17 v):v17B v=true:=by
 unfold v17B
 simp only [Bool.and_eq_true,decide_eq_true_eq,List.all_eq_true,List.mem_range]
 exact ⟨h.len,h.bd⟩
theorem m17_of {c v:List Int} {d:Int} (h:m17B c v d=true):C17 c∧V17 v∧(1≤d∧d≤1000):=by
 unfold m17B at h
 simp only [Bool.and_eq_true,decide_eq_true_eq] at h
 exact ⟨⟨h.1.1,h.1.2⟩,v17_of h.2.1,h.2.2⟩
theorem m17_to {c v:List Int} {d:Int} (h1:C17 c) (h2:V17 v) (h3:1≤d∧d≤1000):m17B c v d=true:=by
 unfold m17B
 rw [h1.w,decide_eq_true h1.len,v17_to h2,decide_eq_true h3.1,decide_eq_true h3.2]
 rfl
def rmX:AOut:=.ret (.tup [.agg [.int .i64 0,.int .i64 0],.int .i64 2])
def rmV {α:Type} (v:List Int) (k:AOut→Option α) (x:Int × Unit):Option (LRes (Int × Unit) α):=
 bif decide (x.1 < (v.length:Int)) then
  if 0≤x.1∧x.1 < (v.length:Int) then
   bif decide (v.getD x.1.toNat 0 < -68719476736) then finL (k rmX) else
   if 0≤x.1∧x.1 < (v.length:Int) then bif decide (v.getD x.1.toNat 0 > 68719476736) then finL (k rmX) else some (.cont (IntKind.i64.wrap (x.1 + 1),())) else none
  else none
 else some (.brk 0 (x.1,()))
abbrev RmS:=Int × Int × Int × Int × Int × Unit
def rmF {α:Type} (c v:List Int) (x:RmS):Option (LRes RmS α):=
 bif decide (x.2.2.2.2.1 < (c.length:Int)) then
  if 0≤x.2.2.2.2.1∧x.2.2.2.2.1 < (c.length:Int) then if 0≤x.2.2.2.2.1∧x.2.2.2.2.1 < (v.length:Int) then
  if 0≤x.2.2.2.2.1∧x.2.2.2.2.1 < (c.length:Int) then if 0≤x.2.2.2.2.1∧x.2.2.2.2.1 < (v.length:Int) then
  if 0≤x.2.2.2.2.1∧x.2.2.2.2.1 < (v.length:Int) then if 0≤x.2.2.2.2.1∧x.2.2.2.2.1 < (v.length:Int) then
   some (.cont (IntKind.i64.wrap (x.1 + IntKind.i64.wrap (c.getD x.2.2.2.2.1.toNat 0 * v.getD x.2.2.2.2.1.toNat 0)),IntKind.i64.wrap (x.2.1 + IntKind.i64.wrap (c.getD x.2.2.2.2.1.toNat 0 * v.getD x.2.2.2.2.1.toNat 0)),
    mnI x.2.2.1 (v.getD x.2.2.2.2.1.toNat 0),mxI x.2.2.2.1 (v.getD x.2.2.2.2.1.toNat 0),IntKind.i64.wrap (x.2.2.2.2.1 + 1),()))
  else none else none else none else none else none else none
 else some (.brk 0 (x.1,x.2.1,x.2.2.1,x.2.2.2.1,x.2.2.2.2.1,()))
def rmD {α:Type} (x n:Int) (K:Int→Option α):Option α:=
 if n=0 then none else if n=0 then none else bif decide (x.tmod n < 0) then K (IntKind.i64.wrap (IntKind.i64.wrap (x.tdiv n) - 1)) else K (IntKind.i64.wrap (x.tdiv n))
def rmT {α:Type} (N:Nat) (c v:List Int) (d n:Int) (k:AOut→Option α):Option α:=
 if 0≤(0:Int)∧(0:Int) < (v.length:Int) then if 0≤(0:Int)∧(0:Int) < (v.length:Int) then
  afterL (iterL N (rmF c v) (0,0,v.getD (Int.toNat 0) 0,v.getD (Int.toNat 0) 0,0,())) fun id y=>if id=0 then
   rmD (IntKind.i64.wrap (y.1 + IntKind.i64.wrap (d * y.2.2.1))) n fun a=>rmD (IntKind.i64.wrap (0 - IntKind.i64.wrap (y.2.1 + IntKind.i64.wrap (d * y.2.2.2.1)))) n fun b=>
    k (.ret (.tup [.agg [.int .i64 a,.int .i64 (IntKind.i64.wrap (0 - b))],.int .i64 0]))
  else none
 else none else none
set_option maxRecDepth 100000 in
theorem rmn_text (N n0:Nat) (α:Type) (c v:List Int) (d:Int) (k:AOut→Option α):evFn real tab ((twY fsT3 spK).env real tab N (n0 + 30)) N Tryz.f158 α [.ro (.int .i64) c,.ro (.int .i64) v,.int .i64 d] k =
 bif !cntW c then k rmX else afterL (iterL N (rmV v k) (0,())) fun id _=>if id=0 then bif !(v.length:Int)==(c.length:Int) then k rmX else bif decide (1≤d) then bif
 !decide (d≤1000) then k rmX else afterL (iterL N (suF c) (0,0,())) fun id y=>if id=0 then rmT N c v d (IntKind.i64.wrap (y.1 + d)) k else none else k rmX else none:=by
 kernel_rfl
def rmS (c v:List Int) (i:Nat):RmS:=(kdoN (atL c) (atL v) i,kdoN (atL c) (atL v) i,foN mnI (atL v) (i - 1),foN mxI (atL v) (i - 1),(i:Int),())
theorem rmD_lo {α:Type} {x n:Int} (hx:0≤x∧x≤1200000000000) (hn:1≤n) (K:Int→Option α):rmD x n K=K (x / n):=by
 unfold rmD
 have q0:=Int.ediv_nonneg hx.1 (show 0≤n by omega)
 have q1:x / n≤x:=Int.ediv_le_self n hx.1
 have m0:=Int.emod_nonneg x (show n≠0 by omega)
 rw [if_neg (by omega),if_neg (by omega),Int.tmod_eq_emod_of_nonneg hx.1,Int.tdiv_eq_ediv_of_nonneg hx.1,decide_eq_false (by omega),cond_false,i64_in _ (by omega)]
theorem rmD_hi {α:Type} {x n:Int} (hx:0≤x∧x≤1200000000000) (hn:1≤n) (K:Int→Option α):rmD (-x) n K=K ((-x) / n):=by
 unfold rmD
 have q0:=Int.ediv_nonneg hx.1 (show 0≤n by omega)
 have q1:x / n≤x:=Int.ediv_le_self n hx.1
 have m0:=Int.emod_nonneg x (show n≠0 by omega)
 have m1:=Int.emod_lt_of_pos x (show 0 < n by omega)
 have e0:=Int.emod_add_mul_ediv x n
 rw [if_neg (by omega),if_neg (by omega),Int.neg_tmod,Int.neg_tdiv,Int.tmod_eq_emod_of_nonneg hx.1,Int.tdiv_eq_ediv_of_nonneg hx.1]
 by_cases hz:x % n=0
 ·rw [hz,decide_eq_false (by omega),cond_false,i64_in _ (by omega)]
  have:(-x) / n=-(x / n):=by
   have e:-x=0 + -(x / n) * n:=by rw [Int.neg_mul,Int.mul_comm]; omega
   rw [e,Int.add_mul_ediv_right _ _ (show n≠0 by omega),Int.zero_ediv,Int.zero_add]
  rw [this]
 ·rw [decide_eq_true (by omega),cond_true,i64_in (-(x / n)) (by omega),i64_in _ (by omega)]
  have:(-x) / n=-(x / n) - 1:=by
   have e:-x=(n - x % n) + (-(x / n) - 1) * n:=by rw [Int.sub_mul,Int.neg_mul,Int.mul_comm]; omega
   rw [e,Int.add_mul_ediv_right _ _ (show n≠0 by omega),Int.ediv_eq_zero_of_lt (by omega) (by omega),Int.zero_add]
  rw [this]
theorem rmF_eq {α:Type} {c v:List Int} (hc:C17 c) (hv:V17 v) {i:Nat} (hi:i < 17):rmF (α:=α) c v (rmS c v i)=some (.cont (rmS c v (i + 1))):=by
 have h1:=do_in (c:=atL c) (v:=atL v) i fun j hj=>⟨hc.bd j (by omega),hv.bd j (by omega)⟩
 have b1:=hc.bd i hi
 have b2:=hv.bd i hi
 have h4:=mul_nn b1.1 b2.1 b1.2 b2.2 (show (0:Int)≤65536 by omega)
 have hci:i < c.length:=by rw [hc.len]; exact hi
 have hvi:i < v.length:=by rw [hv.len]; exact hi
 have hmx:(17:Nat)≤maxLen:=by decide
 have w1:IntKind.i64.wrap (c.getD i 0 * v.getD i 0)=atL c i * atL v i:=i64_in _ (by show -9223372036854775808≤atL c i * atL v i∧atL c i * atL v i≤9223372036854775807; omega)
 have w2:IntKind.i64.wrap (kdoN (atL c) (atL v) i + atL c i * atL v i)=kdoN (atL c) (atL v) (i + 1):=i64_in _ (by omega)
 have f1:mnI (foN mnI (atL v) (i - 1)) (v.getD i 0)=foN mnI (atL v) i:=by
  cases i with
  | zero=>show mnI (v.getD 0 0) (v.getD 0 0)=v.getD 0 0; unfold mnI; simp
  | succ i=>rfl
 have f2:mxI (foN mxI (atL v) (i - 1)) (v.getD i 0)=foN mxI (atL v) i:=by
  cases i with
  | zero=>show mxI (v.getD 0 0) (v.getD 0 0)=v.getD 0 0; unfold mxI; simp
  | succ i=>rfl
 unfold rmF rmS
 simp only [lt_len hci,cond_true,in_len hci,in_len hvi,if_pos,and_self,decide_true,Int.toNat_natCast,wrap_next hi hmx,w1,w2,f1,f2,Nat.add_sub_cancel]
theorem rmT_eq {α:Type} {c v:List Int} {d:Int} (hc:C17 c) (hv:V17 v) (hd:1≤d∧d≤1000) (k:AOut→Option α):rmT 60 c v d (IntKind.i64.wrap (suW c c.length + d)) k=k (.ret (.tup [.agg [.int .i64 (mqL (atL c) (atL v) 17 d),.int .i64 (mqH (atL c) (atL v) 17 d)],.int .i64 0])):=by
 obtain ⟨n1,n2,n3⟩:=meN_17 hc hd
 have n1':IntKind.i64.wrap (suW c c.length + d)=smN (atL c) 17 + d:=n1
 obtain ⟨_,x0,x1⟩:=meO_17 (.inr rfl) hc hv hd
 obtain ⟨_,y0,y1⟩:=meO_17 (.inl rfl) hc hv hd
 have g1:=kmx_in (.inr rfl) 16 (v:=atL v) (B:=65536) fun i hi=>hv.bd i (by omega)
 have g2:=kmx_in (.inl rfl) 16 (v:=atL v) (B:=65536) fun i hi=>hv.bd i (by omega)
 have h1:=mul_nn (show 0≤d by omega) g1.1 hd.2 g1.2 (show (0:Int)≤65536 by omega)
 have h2:=mul_nn (show 0≤d by omega) g2.1 hd.2 g2.2 (show (0:Int)≤65536 by omega)
 have h3:=do_in (c:=atL c) (v:=atL v) 17 fun i hi=>⟨hc.bd i hi,hv.bd i hi⟩
 unfold rmT
 have hlv:=hv.len
 rw [n1',if_pos ⟨by omega,by omega⟩,if_pos ⟨by omega,by omega⟩]
 refine (count_loop (f:=rmF c v) (rmS c v) 17 (fun i hi=>rmF_eq hc hv hi) (y:=rmS c v 17) (b:=0) ?_ (by omega)).trans ?_
 ·unfold rmF rmS
  simp only [hc.len,not_lt_len,cond_false]
 ·rw [if_pos rfl]
  show rmD (IntKind.i64.wrap (kdoN (atL c) (atL v) 17 + IntKind.i64.wrap (d * foN mnI (atL v) 16))) _ (fun a=>rmD (IntKind.i64.wrap (0 - IntKind.i64.wrap (kdoN (atL c) (atL v) 17 + IntKind.i64.wrap (d * foN mxI (atL v) 16)))) _ _)=_
  rw [i64_in (d * foN mnI (atL v) 16) (by omega),i64_in (d * foN mxI (atL v) 16) (by omega),Int.add_comm (kdoN (atL c) (atL v) 17),Int.add_comm (kdoN (atL c) (atL v) 17),i64_in (d * foN mnI (atL v) 16 + _) (by omega),i64_in (d * foN mxI (atL v) 16 + _) (by omega),i64_in (0 - _) (by omega),Int.zero_sub,rmD_lo ⟨x0,x1⟩ n2,rmD_hi ⟨y0,y1⟩ n2]
  have t1:=mqH_top hc.bd hd hv.bd
  have t2:=Int.le_trans (mqL_nn hc.bd hd hv.bd) (mq_le hc.bd hd fun i _=>Int.le_refl (atL v i))
  unfold mqH at t1 t2
  rw [show (17:Nat) - 1=16 from rfl] at t1 t2
  rw [i64_in (0 - _) (by omega)]
  unfold mqL mqH
  rw [show (17:Nat) - 1=16 from rfl,Int.zero_sub]
theorem rmn_plain {α:Type} {c v:List Int} {d:Int} (hc:C17 c) (hv:V17 v) (hd:1≤d∧d≤1000) (k:AOut→Option α) :
  (bif !cntW c then k rmX else afterL (iterL 60 (rmV v k) (0,())) fun id _=>if id=0 then bif !(v.length:Int)==(c.length:Int) then k rmX else
   bif decide (1≤d) then bif !decide (d≤1000) then k rmX else
    afterL (iterL 60 (suF c) (0,0,())) fun id y=>if id=0 then rmT 60 c v d (IntKind.i64.wrap (y.1 + d)) k else none
   else k rmX
  else none)=k (.ret (.tup [.agg [.int .i64 (mqL (atL c) (atL v) 17 d),.int .i64 (mqH (atL c) (atL v) 17 d)],.int .i64 0])):=by
 have hcl:=hc.len
 have hvl:=hv.len
 have hmx:maxLen=9223372036854775807:=rfl
 rw [hc.w,Bool.not_true,cond_false]
 refine (count_loop (f:=rmV v k) (fun i:Nat=>((i:Int),())) v.length (fun i hi=>?_) (y:=((v.length:Int),())) (b:=0) ?_ (by omega)).trans ?_
 ·have b2:0≤v.getD i 0∧v.getD i 0≤65536:=hv.bd i (by omega)
  have e1:decide (v.getD i 0 < -68719476736)=false:=decide_eq_false (by omega)
  have e2:decide (v.getD i 0 > 68719476736)=false:=decide_eq_false (by omega)
  unfold rmV
  simp only [lt_len hi,cond_true,in_len hi,if_pos,and_self,decide_true,Int.toNat_natCast,wrap_next hi (show v.length≤maxLen by omega),e1,e2,cond_false]
 ·unfold rmV
  simp only [not_lt_len,cond_false]
 ·have hE:(!(v.length:Int)==(c.length:Int))=false:=by rw [hvl,hcl]; rfl
  rw [if_pos rfl,hE,cond_false,decide_eq_true hd.1,decide_eq_true hd.2,cond_true,Bool.not_true,cond_false]
  refine (count_loop (f:=suF c) (fun i=>(suW c i,(i:Int),())) c.length (fun i hi=>?_) (y:=(suW c c.length,(c.length:Int),())) (b:=0) ?_ (by omega)).trans ?_
  ·unfold suF
   simp only [lt_len hi,cond_true,in_len hi,if_pos,and_self,decide_true,Int.toNat_natCast,wrap_next hi (show c.length≤maxLen by omega),suW]
  ·unfold suF
   simp only [not_lt_len,cond_false]
  ·rw [if_pos rfl]
   exact rmT_eq hc hv hd k
noncomputable def rmnS:Fsp:=fun _ args k=>match args with
 | [.ro (.int .i64) c,.ro (.int .i64) v,.int .i64 d]=>bif m17B c v d then k (.ret (.tup [.agg [.int .i64 (mqL (atL c) (atL v) 17 d),.int .i64 (mqH (atL c) (atL v) 17 d)],.int .i64 0])) else none
 | _=>none
theorem rmnS_ok:FspOk Tryz.prog 158 rmnS:=tower_Y fsT3_ok spK_ok ⟨Tryz.func158,fun _ _=>by kernel_rfl⟩ (by intro α args k; unfold rmnS; split<;>simp only [cond_bind,Option.bind_some,Option.bind_none]) fun args out hSm hEq=>by
 unfold rmnS at hEq
 split at hEq
 ·rename_i c v d
  cases hm:m17B c v d
  ·rw [hm] at hEq; cases hEq
  ·rw [hm] at hEq
   obtain ⟨hc,hv,hd⟩:=m17_of hm
   exact ⟨60,30,((rmn_text 60 0 AOut c v d some).trans (rmn_plain hc hv hd some)).trans hEq⟩
 ·cases hEq
noncomputable def fsT4:FuncId→Option Fsp:=fun g=>
 if g=158 then some rmnS else
 fsT3 g
theorem fsT4_ok:FsOk fsT4:=
 fs_cons rmnS_ok <|
 fsT3_ok
theorem sub_post0 {K h g w σ I hs J hs1 h1 u e w1} (s:St K h g w) (S0:Sub σ I hs h) (S1:Sub σ J hs1 h1)
  (old:∀ i,J i→I i) (hl:h1.length=h.length) (off:∀ j,j < h.length→(∀ i,I i→σ i≠j)→h1[j]?=h[j]?)
  (dead:∀ i,I i→¬ J i→h1[σ i]?=some ABlk.dead)
  (hb:∀ i,I i→∀ cs,h[σ i]?=some (ABlk.box false cs)→h1[σ i]?=some (ABlk.box false cs)) (hr:∀ i,I i→∀ t e xs,h[σ i]?≠some (ABlk.row false t e xs)) (hu:Ren σ J u u)
  (p:CvPost (KSub K σ I h g) hs ⟨fun i=>g.ρ (σ i),g.M⟩ w hs1 .normal u e w1):CvPost K h g w h1 .normal u e w1:=by
 obtain ⟨g1,s1,l1,z,rfl,hz⟩:=p
 let g2:Gh:=⟨g.ρ,g1.M⟩
 have hρ:∀ i,J i→g1.ρ i=g2.ρ (σ i):=fun i hi=>by
  have hI:=old i hi
  rcases S1.blk i hi with ⟨wr,cs,ds,e1,e2,_⟩ | ⟨wr,t,e,xs,e1,e2⟩
  ·obtain ⟨_,_,_,_,r⟩:=l1.box i wr cs (S0.here hI).1 e1
   exact r
  ·obtain ⟨_,_,_,_,r⟩:=l1.row i wr t e xs (S0.here hI).1 e1
   exact r
 have on:∀ j,(∃ i,I i∧σ i=j)∨∀ i,I i→σ i≠j:=fun j=>by
  by_cases hx:∃ i,I i∧σ i=j
  ·exact .inl hx
  ·exact .inr fun i hi e=>hx ⟨i,hi,e⟩
 have cls:∀ j,alive h1 j→(∃ i,J i∧σ i=j∧alive hs1 i)∨(alive h j∧∀ i,I i→σ i≠j):=fun j hj=>by
  obtain ⟨B,hB,hd⟩:=hj
  have hlt:j < h.length:=by rw [← hl]; exact (List.getElem?_eq_some_iff.1 hB).1
  rcases on j with ⟨i,hi,rfl⟩ | hne
  ·by_cases hk:J i
   ·exact .inl ⟨i,hk,rfl,(S1.here hk).2.2.1⟩
   ·rw [dead i hi hk] at hB
    exact absurd (Option.some.inj hB).symm hd
  ·exact .inr ⟨⟨B,by rw [← off j hlt hne]; exact hB,hd⟩,hne⟩
 have le:Le K h g w h1 g2 w1:={
  len:=by omega
  here:=fun j hj=>by
   have hjl:=hj.lt
   rcases on j with ⟨i,hi,rfl⟩ | hne
   ·by_cases hk:J i
    ·exact (S1.here hk).2.1
    ·exact ⟨_,dead i hi hk,by simp⟩
   ·obtain ⟨B,hB,hd⟩:=hj
    exact ⟨B,by rw [off j hjl hne]; exact hB,hd⟩
  m:=l1.m
  new:=fun b hb=>(l1.new b hb).elim .inl fun hk=>.inr fun h=>hk (.inl h)
  mw:=l1.mw
  k:=fun b hk=>l1.k b (.inl hk)
  box:=fun j wr cs' hj hx=>by
   have hjl:=hj.lt
   rcases on j with ⟨i,hi,rfl⟩ | hne
   ·by_cases hk:J i
    ·rcases S1.blk i hk with ⟨wr1,cs1,ds1,e1,e2,q1,_⟩ | ⟨wr1,t,e,xs,e1,e2⟩
     ·rw [hx] at e2; cases e2
      obtain ⟨wr0,cs0,f1,f2,_⟩:=l1.box i _ cs1 (S0.here hi).1 e1
      rcases S0.blk i hi with ⟨wr2,cs2,ds2,k1,k2,k3,_⟩ | ⟨wr2,t,e,xs,k1,k2⟩
      ·rw [f1] at k1; cases k1
       exact ⟨_,_,k2,by omega,rfl⟩
      ·rw [f1] at k1; cases k1
     ·rw [hx] at e2; cases e2
    ·rw [dead i hi hk] at hx; cases hx
   ·rw [off j hjl hne] at hx
    exact ⟨_,_,hx,rfl,rfl⟩
  row:=fun j wr t e xs' hj hx=>by
   have hjl:=hj.lt
   rcases on j with ⟨i,hi,rfl⟩ | hne
   ·by_cases hk:J i
    ·rcases S1.blk i hk with ⟨wr1,cs1,ds1,e1,e2,q1,_⟩ | ⟨wr1,t1,ee,xs,e1,e2⟩
     ·rw [hx] at e2; cases e2
     ·rw [hx] at e2; cases e2
      obtain ⟨wr0,xs0,f1,f2,_⟩:=l1.row i _ _ _ _ (S0.here hi).1 e1
      rcases S0.blk i hi with ⟨wr2,cs2,ds2,k1,k2,_⟩ | ⟨wr2,t2,e2',xs2,k1,k2⟩
      ·rw [f1] at k1; cases k1
      ·rw [f1] at k1; cases k1
       exact ⟨_,_,k2,f2,rfl⟩
    ·rw [dead i hi hk] at hx; cases hx
   ·rw [off j hjl hne] at hx
    exact ⟨_,_,hx,fun _=>rfl,rfl⟩
  lp:=fun j st pend ts ps aw bo hj hx=>by
   have hjl:=hj.lt
   rcases on j with ⟨i,hi,rfl⟩ | hne
   ·by_cases hk:J i
    ·rcases S1.blk i hk with ⟨wr1,cs1,ds1,e1,e2,_⟩ | ⟨wr1,t1,ee,xs,e1,e2⟩
     ·rw [hx] at e2; cases e2
     ·rw [hx] at e2; cases e2
    ·rw [dead i hi hk] at hx; cases hx
   ·rw [off j hjl hne] at hx
    exact ⟨_,_,hx,rfl⟩
  lockb:=fun j cs hx=>by
   rcases on j with ⟨i,hi,rfl⟩ | hne
   ·exact hb i hi _ hx
   ·rw [off j (List.getElem?_eq_some_iff.1 hx).1 hne]; exact hx
  lockr:=fun j t e xs hx=>by
   rcases on j with ⟨i,hi,rfl⟩ | hne
   ·exact absurd hx (hr i hi _ _ _)
   ·rw [off j (List.getElem?_eq_some_iff.1 hx).1 hne]; exact hx
  os:=l1.os
  tape:=l1.tape
  output:=l1.output
  size:=l1.size }
 refine ⟨g2,?_,le,z,rfl,ren_up S1 (g:=g2) (gs:=g1) hρ (fun _ h=>h) hu hz⟩
 have part:∀ i,J i→∀ B,h1[σ i]?=some B→BlkOk h1 g2 w1 (σ i) B:=fun i hi B hB=>by
  rcases S1.blk i hi with ⟨wr,cs,ds,e1,e2,q1,q2⟩ | ⟨wr,t,e,xs,e1,e2⟩
  ·rw [e2] at hB; cases hB
   obtain ⟨b,arr,t,f1,f2,f3,f4⟩:=s1.blk i _ e1
   refine ⟨b,arr,t,by rw [← hρ i hi]; exact f1,f2,f3.trans q1,fun k d x hd hx=>?_⟩
   have hk:k < cs.length:=by rw [q1]; exact (List.getElem?_eq_some_iff.1 hd).1
   have rr:=q2 k _ d (List.getElem?_eq_getElem hk) hd
   obtain ⟨z1,z2⟩:=f4 k _ x (List.getElem?_eq_getElem hk) hx
   exact ⟨by rw [rr.scalar]; exact z1,ren_up S1 (g:=g2) (gs:=g1) hρ (fun _ h=>h) rr z2⟩
  ·rw [e2] at hB; cases hB
   have:=s1.blk i _ e1
   show RowOk h1 g2 w1 (g2.ρ (σ i)) t e xs
   rw [← hρ i hi]
   exact RowOk.same this fun _ h=>h
 exact {
  blk:=fun j B hB=>by
   have hlt:j < h.length:=by rw [← hl]; exact (List.getElem?_eq_some_iff.1 hB).1
   rcases on j with ⟨i,hi,rfl⟩ | hne
   ·by_cases hk:J i
    ·exact part i hk B hB
    ·rw [dead i hi hk] at hB; cases hB; trivial
   ·rw [off j hlt hne] at hB
    have o:=s.blk j B hB
    exact o.mono le rfl fun n hd hn=>l1.k n (.inr ⟨j,⟨B,hB,hd⟩,hne,hn⟩)
  inj:=fun i j b hi hj h1' h2'=>by
   rcases cls i hi with ⟨i0,a1,rfl,a3⟩ | ⟨a1,a3⟩
   ·rcases cls j hj with ⟨j0,b1',rfl,b3⟩ | ⟨b1',b3⟩
    ·rw [s1.inj i0 j0 b a3 b3 (by rw [hρ i0 a1]; exact h1') (by rw [hρ j0 b1']; exact h2')]
    ·exact absurd (.inr ⟨j,b1',b3,h2'⟩) (s1.sep i0 b a3 (by rw [hρ i0 a1]; exact h1')).1
   ·rcases cls j hj with ⟨j0,b1',rfl,b3⟩ | ⟨b1',b3⟩
    ·exact absurd (.inr ⟨i,a1,a3,h1'⟩) (s1.sep j0 b b3 (by rw [hρ j0 b1']; exact h2')).1
    ·exact s.inj i j b a1 b1' h1' h2'
  sep:=fun j b hj hb'=>by
   rcases cls j hj with ⟨i,a1,rfl,a3⟩ | ⟨a1,a3⟩
   ·obtain ⟨z1,z2,z3⟩:=s1.sep i b a3 (by rw [hρ i a1]; exact hb')
    exact ⟨fun hk=>z1 (.inl hk),z2,z3⟩
   ·obtain ⟨z1,z2,z3⟩:=s.sep j b a1 hb'
    refine ⟨z1,fun hm=>?_,Nat.lt_of_lt_of_le z3 l1.size⟩
    rcases l1.new b hm with hm | hk
    ·exact z2 hm
    ·exact hk (.inr ⟨j,a1,a3,hb'⟩)
  low:=s1.low
  klow:=fun b hk=>Nat.lt_of_lt_of_le (s.klow b hk) l1.size }
abbrev knT:TypeId:=82
abbrev knR (M:MpI):ABlk:=.row true knT MpSh M
def rvX (D:RvI→GsI→MpI→Bool) (V:RvI→GsI→HpI) (W:RvI→GsI→MpI→MpI):Cv→Cv:=fun _ _ v args h k=>
 match v,args with
 | .fn f [],[.agg [.int .i64 d,.ro (.sl (.int .i64)) A,.ro (.sl (.int .i64)) B],.agg [.int .i64 e,.int .i64 l,.int .i64 t],.own q]=>
   match h.getD q .dead with
   | .row true t' (.mp (.recd (.cons (.int .i64) (.cons (.int .i64) (.cons (.int .i64) .nil)))) (.recd (.cons (.int .i64) (.cons (.int .i64) .nil)))) M=>
     if f=70∧t'=82 then
      bif D (d,A,B) (e,l,t,()) M then k .normal (hpA (V (d,A,B) (e,l,t,())).1 (V (d,A,B) (e,l,t,())).2.1) (h.set q (knR (W (d,A,B) (e,l,t,()) M))) else none
     else none
   | _=>none
 | _,_=>none
def rzX (D:RvI→GsI→Int→MpI→Bool) (V:RvI→GsI→Int→HpI) (W:RvI→GsI→Int→MpI→MpI):Cv→Cv:=fun _ _ v args h k=>
 match v,args with
 | .fn f [],[.agg [.int .i64 d,.ro (.sl (.int .i64)) A,.ro (.sl (.int .i64)) B],.agg [.int .i64 e,.int .i64 l,.int .i64 t],.int .i64 n,.own q]=>
   match h.getD q .dead with
   | .row true t' (.mp (.recd (.cons (.int .i64) (.cons (.int .i64) (.cons (.int .i64) .nil)))) (.recd (.cons (.int .i64) (.cons (.int .i64) .nil)))) M=>
     if f=116∧t'=82 then
      bif D (d,A,B) (e,l,t,()) n M then k .normal (hpA (V (d,A,B) (e,l,t,()) n).1 (V (d,A,B) (e,l,t,()) n).2.1) (h.set q (knR (W (d,A,B) (e,l,t,()) n M))) else none
     else none
   | _=>none
 | _,_=>none
noncomputable def spV (D:RvI→GsI→MpI→Bool) (V:RvI→GsI→HpI) (W:RvI→GsI→MpI→MpI):FuncId→Option (Cv→Cv):=fun g=>
 if g=70 then some (rvX D V W) else spK g
noncomputable def spZ (D:RvI→GsI→Int→MpI→Bool) (V:RvI→GsI→Int→HpI) (W:RvI→GsI→Int→MpI→MpI):FuncId→Option (Cv→Cv):=fun g=>
 if g=116 then some (rzX D V W) else spK g
/-! As twY; the reference's value and style may write. -/
noncomputable def twR (fs:FuncId→Option Fsp) (sp:FuncId→Option (Cv→Cv)):Tower:=⟨fs,fun g=>!(g==999961 || cloneB g || g==70 || g==116),sp,lookF fnsT⟩
theorem twR_ok {fs:FuncId→Option Fsp} {sp:FuncId→Option (Cv→Cv)} (h:FsOk fs) (hs:SpOk sp):TwOk Tryz.prog (twR fs sp):=⟨h,hs,look_ok fnsT_ok⟩
theorem tower_R {fs:FuncId→Option Fsp} {sp:FuncId→Option (Cv→Cv)} (h:FsOk fs) (hs:SpOk sp) {f:FuncId} {fn:Func} (hf:FnOk Tryz.prog f fn) {S:Fsp}
  (hn:∀ (α:Type) args (k:AOut→Option α),S α args k=(S AOut args some).bind k)
  (hS:∀ args out,(∀ c∈args,Sm c)→S AOut args some=some out→∃ N n,evFn real tab ((twR fs sp).env real tab N n) N fn AOut args some=some out):FspOk Tryz.prog f S where
 enter:=hf.enter
 nat:=hn
 calls:=fun args out hout M w cargs hM hl hr=>by
  have hsm:∀ c∈args,Sm c:=fun c hc=>by
   obtain ⟨j,hj,rfl⟩:=List.mem_iff_getElem.1 hc
   exact (hr j _ _ (List.getElem?_eq_getElem hj) (Array.getElem?_eq_getElem (by omega))).sm
  obtain ⟨N,n,hN⟩:=hS args out hsm hout
  exact (fn_ok mixedT tabOk (tower_ok mixedT tabOk (twR_ok h hs) N n) N hf.get hf.enter).calls args out hN M w cargs hM hl hr
def Flat (v:AVal):Prop:=∀ σ I,Ren σ I v v
theorem ro_at {f:FuncId} {fn:Func} (hf:FnOk Tryz.prog f fn) {fs:FuncId→Option Fsp} (hfs:FsOk fs) {sp:FuncId→Option (Cv→Cv)} (hsp:SpOk sp) {X:Cv} {caps:List AVal} (hX:∀ cs args hp (α:Type) (k:AExit→AVal→List ABlk→Option α),cs≠[]→X α (.fn f cs) args hp k=none)
  (nat:∀ (α:Type) args hp (k:AExit→AVal→List ABlk→Option α),X α (.fn f caps) args hp k=(X (AExit × AVal × List ABlk) (.fn f caps) args hp tripE).bind fun p=>k p.1 p.2.1 p.2.2)
  (step:∀ args hp x u h1,X (AExit × AVal × List ABlk) (.fn f []) args hp tripE=some (x,u,h1)→∃ (pre:List AVal) (q:Nat) (M M':MpI),args=pre++[.own q]∧(∀ p∈pre,Flat p)∧hp[q]?=some (knR M)∧x=.normal∧Flat u∧h1=hp.set q (knR M') ∧
   ∃ N n hs,evBody real tab ((twR fs sp).env real tab N n) N fn (pre++[.own 0]) [knR M] tripE=some (.normal,u,hs)∧hs[0]?=some (knR M')):CvAt Tryz.prog X (.fn f caps) where
 nat:=nat
 ok:=fun args h x u h1 hk K g w fv cargs s hv hlen hargs=>by
  by_cases hc:caps=[]
  case neg=>rw [hX caps args h _ _ hc] at hk; cases hk
  subst hc
  obtain ⟨pre,q,M,M',rfl,hpre,hq,rfl,hu,rfl,N,n,hs,hbody,hs0⟩:=step args h x u h1 hk
  cases hv with
  | fn _ _ arr ha1 ha2=>
    refine .inl ⟨f,arr,rfl,hf.enter _,?_⟩
    have ha0:arr=#[]:=Array.eq_empty_of_size_eq_zero (by rw [← ha1]; rfl)
    subst ha0
    have hql:q < h.length:=(List.getElem?_eq_some_iff.1 hq).1
    have S0:Sub (fun _=>q) (· < 1) [knR M] h:=⟨fun i j hi hj _=>by omega,fun i hi=>by
     match i,hi with
     | 0,_=>exact .inr ⟨true,knT,MpSh,M,rfl,hq⟩
     | i + 1,hi=>omega⟩
    have S1:Sub (fun _=>q) (· < 1) hs (h.set q (knR M')):=⟨fun i j hi hj _=>by omega,fun i hi=>by
     match i,hi with
     | 0,_=>exact .inr ⟨true,knT,MpSh,M',hs0,by rw [List.getElem?_set,if_pos rfl,if_pos hql]⟩
     | i + 1,hi=>omega⟩
    have st:=sub_st s (I:=(· < 1)) (hs:=[knR M]) (fun i hi=>by simpa using hi) S0
    refine (body_calls mixedT tabOk (tower_ok mixedT tabOk (twR_ok hfs hsp) N n) N hf.get hbody st (by rw [Array.append_empty,← hlen]; simp) fun j c' z hc' hz=>?_).mono fun e' w' hp=>sub_post0 s S0 S1 (fun i hi=>hi) (by rw [List.length_set]) (fun j hj hne=>?_) (fun i hi hk=>absurd hi hk) (fun i hi cs hb=>?_) (fun i hi t e xs hb=>?_) (hu _ _) hp
    ·rw [Array.append_empty] at hz
     have down:∀ {c' d':AVal} {v:Value},Ren (fun _=>q) (· < 1) c' d'→Rep h g w d' v→Rep [knR M] ⟨fun i=>g.ρ q,g.M⟩ w c' v:=fun rr hh=>ren_down S0 (g:=g) (gs:=⟨fun i=>g.ρ q,g.M⟩) (fun _ _=>rfl) (fun _ h=>h) rr hh
     by_cases hj:j < pre.length
     ·rw [List.getElem?_append_left hj] at hc'
      exact down (hpre c' (List.mem_of_getElem? hc') _ _) (hargs j c' z (by rw [List.getElem?_append_left hj]; exact hc') hz)
     ·rw [List.getElem?_append_right (by omega)] at hc'
      have hj0:j - pre.length=0:=by
       have:=(List.getElem?_eq_some_iff.1 hc').1
       simp at this; omega
      rw [hj0] at hc'
      cases hc'
      exact down (.own 0 (show 0 < 1 by omega)) (hargs j (.own q) z (by rw [List.getElem?_append_right (by omega),hj0]; rfl) hz)
    ·have:q≠j:=hne 0 (show 0 < 1 by omega)
     rw [List.getElem?_set_ne this]
    ·rw [hq] at hb; cases hb
    ·have hb:h[q]?=some (ABlk.row false t e xs):=hb
     rw [hq] at hb; cases hb
abbrev RsS:=MpI × List Int × List Int × Int × Unit
def rsQ {α:Type} (M:MpI) (lo hi:Int) (x:RsS):Option (LRes RsS α):=
 if (x.2.1.length + [lo].length) * 8≤room then if (x.2.2.1.length + [hi].length) * 8≤room then
  some (.cont (M,x.2.1++[lo],x.2.2.1++[hi],IntKind.i64.wrap (x.2.2.2.1 + 1),())) else none else none
def rsC {α:Type} (t:Int) (x:RsS):Option (LRes RsS α):=
 bif decide (x.2.2.2.1 < 8) then bif t==1 then rsQ x.1 65536 65536 x else rsQ x.1 0 0 x else rsQ x.1 0 0 x
def ntrsF {α:Type} (D:RvI→GsI→MpI→Bool) (V:RvI→GsI→HpI) (W:RvI→GsI→MpI→MpI) (r:RvI) (e l t:Int) (x:RsS):Option (LRes RsS α):=
 bif decide (x.2.2.2.1 < 17) then
  bif decide (e > 0) then
   bif hmB t&&ptB (IntKind.i64.wrap (x.2.2.2.1 - 8)) then bif D r (nxG e l t (IntKind.i64.wrap (x.2.2.2.1 - 8))) x.1 then
    rsQ (W r (nxG e l t (IntKind.i64.wrap (x.2.2.2.1 - 8))) x.1) (V r (nxG e l t (IntKind.i64.wrap (x.2.2.2.1 - 8)))).1 (V r (nxG e l t (IntKind.i64.wrap (x.2.2.2.1 - 8)))).2.1 x else none else none
  else bif decide (x.2.2.2.1 > 8) then bif t==0 then rsQ x.1 65536 65536 x else rsC t x else rsC t x
 else some (.brk 0 (x.1,x.2.1,x.2.2.1,x.2.2.2.1,()))
def rsB' {α:Type} (N:Nat) (D:RvI→GsI→MpI→Bool) (V:RvI→GsI→HpI) (W:RvI→GsI→MpI→MpI) (r:RvI) (e l t:Int) (c:List Int) (M:MpI) (K:HpI→MpI→Option α):Option α:=
 afterL (iterL N (ntrsF D V W r e l t) (M,[],[],0,())) fun id y=>if id=0 then
  bif m17B c y.2.1 r.1 then bif m17B c y.2.2.1 r.1 then K (mqL (atL c) (atL y.2.1) 17 r.1,mqH (atL c) (atL y.2.2.1) 17 r.1,()) y.1 else none else none
 else none
def rsA {α:Type} (N:Nat) (D:RvI→GsI→MpI→Bool) (V:RvI→GsI→HpI) (W:RvI→GsI→MpI→MpI) (r:RvI) (e l t n:Int) (M:MpI) (K:HpI→MpI→Option α):Option α:=
 sel2 r.2.1 r.2.2 t fun L=>if 0≤n∧n < (L.length:Int) then if ((List.nil (α:=Int)).length + (L.getD n.toNat []).length) * 8≤room then
  bif e==0 then if 0≤(8:Int)∧(8:Int) < ((([]:List Int)++L.getD n.toNat []).length:Int) then rsB' N D V W r e l t ((([]:List Int)++L.getD n.toNat []).set (Int.toNat 8) 0) M K else none
  else rsB' N D V W r e l t (([]:List Int)++L.getD n.toNat []) M K
 else none else none
abbrev HdO:=Option (AExit × AVal × Option ABlk)
def hd1 (x:AExit) (v:AVal) (h:List ABlk):HdO:=some (x,v,h[0]?)
def rvR (lo hi:Int) (M:MpI):HdO:=some (.normal,hpA lo hi,some (knR M))
set_option maxRecDepth 100000 in
theorem rzs_body (N n0:Nat) (D:RvI→GsI→MpI→Bool) (V:RvI→GsI→HpI) (W:RvI→GsI→MpI→MpI) (d:Int) (A B:List (List Int)) (M:MpI) (e l t n:Int):evBody real tab ((twR fsT4 (spV D V W)).env real tab N (n0 + 30)) N Tryz.f116 (α:=AExit × AVal × Option ABlk) [.agg [.int .i64 d,.ro LsSh A,.ro LsSh B],.agg [.int .i64 e,.int .i64 l,.int .i64 t],.int .i64 n,.own 0] [knR M] hd1 =
 rsA N D V W (d,A,B) e l t n M fun o M'=>rvR o.1 o.2.1 M':=by kernel_rfl
/-! value, over what calls see of style. -/
abbrev RlS:=MpI × Int × Int × Int × Unit
def rlF {α:Type} (D:RvI→GsI→Int→MpI→Bool) (V:RvI→GsI→Int→HpI) (W:RvI→GsI→Int→MpI→MpI) (r:RvI) (e l t:Int) (x:RlS):Option (LRes RlS α):=
 sel2 r.2.1 r.2.2 t fun L=>bif decide (x.2.1 < (L.length:Int)) then
  bif D r (e,l,t,()) x.2.1 x.1 then
   bif t==0 then some (.cont (W r (e,l,t,()) x.2.1 x.1,IntKind.i64.wrap (x.2.1 + 1),mxI x.2.2.1 (V r (e,l,t,()) x.2.1).1,mxI x.2.2.2.1 (V r (e,l,t,()) x.2.1).2.1,()))
   else some (.cont (W r (e,l,t,()) x.2.1 x.1,IntKind.i64.wrap (x.2.1 + 1),mnI x.2.2.1 (V r (e,l,t,()) x.2.1).1,mnI x.2.2.2.1 (V r (e,l,t,()) x.2.1).2.1,()))
  else none
 else some (.brk 0 (x.1,x.2.1,x.2.2.1,x.2.2.2.1,()))
def rvU (N:Nat) (D:RvI→GsI→Int→MpI→Bool) (V:RvI→GsI→Int→HpI) (W:RvI→GsI→Int→MpI→MpI) (r:RvI) (M:MpI) (e l t:Int):HdO:=
 bif (mpFind GsSh HpSh (e,l,t,()) M).isSome then rvR (fdH (e,l,t,()) M).1 (fdH (e,l,t,()) M).2.1 M else
 bif D r (e,l,t,()) 0 M then afterL (iterL N (rlF D V W r e l t) (W r (e,l,t,()) 0 M,1,(V r (e,l,t,()) 0).1,(V r (e,l,t,()) 0).2.1,())) fun id y=>if id=0 then rvR y.2.2.1 y.2.2.2.1 (mpPut GsSh HpSh (e,l,t,()) (y.2.2.1,y.2.2.2.1,()) y.1) else none
 else none
def rvZ (N:Nat) (D:RvI→GsI→Int→MpI→Bool) (V:RvI→GsI→Int→HpI) (W:RvI→GsI→Int→MpI→MpI) (r:RvI) (M:MpI) (e l t:Int):HdO:=
 bif e==0 then bif decide (l < 0) then rvR 0 0 M else rvU N D V W r M e l t else rvU N D V W r M e l t
def rvT (N:Nat) (D:RvI→GsI→Int→MpI→Bool) (V:RvI→GsI→Int→HpI) (W:RvI→GsI→Int→MpI→MpI) (r:RvI) (M:MpI) (e l t:Int):HdO:=
 bif e==0 then bif decide (l > 0) then rvR 65536 65536 M else rvZ N D V W r M e l t else rvZ N D V W r M e l t
set_option maxRecDepth 100000 in
theorem rva_body (N n0:Nat) (D:RvI→GsI→Int→MpI→Bool) (V:RvI→GsI→Int→HpI) (W:RvI→GsI→Int→MpI→MpI) (d:Int) (A B:List (List Int)) (M:MpI) (e l t:Int):evBody real tab ((twR fsT4 (spZ D V W)).env real tab N (n0 + 30)) N Tryz.f70 (α:=AExit × AVal × Option ABlk) [.agg [.int .i64 d,.ro LsSh A,.ro LsSh B],.agg [.int .i64 e,.int .i64 l,.int .i64 t],.own 0] [knR M] hd1=rvT N D V W (d,A,B) M e l t:=by kernel_rfl
structure OkH (h:HpI):Prop where
 lo:0≤h.1
 le:h.1≤h.2.1
 hi:h.2.1≤65536
structure LeH (a b:HpI):Prop where
 lo:a.1≤b.1
 hi:a.2.1≤b.2.1
theorem LeH.refl (a:HpI):LeH a a:=⟨Int.le_refl _,Int.le_refl _⟩
theorem LeH.trans {a b c:HpI} (h:LeH a b) (g:LeH b c):LeH a c:=⟨Int.le_trans h.lo g.lo,Int.le_trans h.hi g.hi⟩
def loS (F:Nat→HpI) (i:Nat):Int:=(F i).1
def hiS (F:Nat→HpI) (i:Nat):Int:=(F i).2.1
def syF (d:Int) (c:List Int) (F:Nat→HpI):HpI:=(mqL (atL c) (loS F) 17 d,mqH (atL c) (hiS F) 17 d,())
def seqH (V:RvI→GsI→HpI) (r:RvI) (e l t:Int) (i:Nat):HpI:=hpO V r e l t ((i:Int) - 8)
theorem pn_lo (V:RvI→GsI→HpI) (r:RvI) (e l t:Int) (i:Nat) (hi:i < 17):atL ((pnL V r e l t 17).map (·.1)) i=loS (seqH V r e l t) i:=by
 unfold atL pnL
 rw [List.map_map,List.getD_eq_getElem?_getD,List.getElem?_map,List.getElem?_range hi]
 rfl
theorem pn_hi (V:RvI→GsI→HpI) (r:RvI) (e l t:Int) (i:Nat) (hi:i < 17):atL ((pnL V r e l t 17).map (·.2.1)) i=hiS (seqH V r e l t) i:=by
 unfold atL pnL
 rw [List.map_map,List.getD_eq_getElem?_getD,List.getElem?_map,List.getElem?_range hi]
 rfl
theorem cnZ_17 {c:List Int} (h:C17 c) (e:Int):C17 (cnZ e c):=by
 unfold cnZ
 cases e==0
 ·exact h
 ·show C17 (c.set 8 0)
  have hl:(c.set 8 0).length=17:=by rw [List.length_set]; exact h.len
  refine ⟨?_,hl⟩
  have h1:=h.w
  unfold cntW at h1 ⊢
  simp only [Bool.and_eq_true,Bool.not_eq_true',List.any_eq_false,List.length_set] at h1 ⊢
  refine ⟨h1.1,h1.2.1,fun i hi=>?_⟩
  have h3:=h1.2.2 i hi
  rw [List.getD_eq_getElem?_getD,List.getElem?_set]
  split
  ·split
   ·unfold cnO; simp
   ·unfold cnO; simp
  ·rw [List.getD_eq_getElem?_getD] at h3; exact h3
theorem rv1_17 {L:List (List Int)} (h:rv1 L=true) {c:List Int} (hc:c∈L):C17 c:=by
 obtain ⟨i,hi,rfl⟩:=List.mem_iff_getElem.1 hc
 have:=(rv1_in h).2.2 i hi
 rw [List.getD_eq_getElem?_getD,List.getElem?_eq_getElem hi] at this
 exact ⟨this.1,this.2⟩
theorem op_rv {r:RvI} (h:rvB r=true) (t:Int):rv1 (opL r t)=true:=by
 obtain ⟨h1,h2,_⟩:=rvB_in h
 unfold opL
 cases t==0
 ·exact h2
 ·exact h1
theorem sy_eq {V:RvI→GsI→HpI} {r:RvI} {e l t:Int} (hd:1≤r.1∧r.1≤1000) {c:List Int} (hc:C17 c) (hF:∀ i,i < 17→OkH (seqH V r e l t i)):syH r.1 e (pnL V r e l t 17) c=syF r.1 (cnZ e c) (seqH V r e l t):=by
 have hl:(pnL V r e l t 17).length=17:=pnL_len ..
 have v1:V17 ((pnL V r e l t 17).map (·.1)):=⟨by rw [List.length_map,hl],fun i hi=>by
  rw [pn_lo V r e l t i hi]
  have:=hF i hi
  exact ⟨this.lo,Int.le_trans this.le this.hi⟩⟩
 have v2:V17 ((pnL V r e l t 17).map (·.2.1)):=⟨by rw [List.length_map,hl],fun i hi=>by
  rw [pn_hi V r e l t i hi]
  have:=hF i hi
  exact ⟨Int.le_trans this.lo this.le,this.hi⟩⟩
 unfold syH syF
 rw [meH_17 (cnZ_17 hc e) v1 v2 hd,mqL_congr (pn_lo V r e l t),mqH_congr (pn_hi V r e l t)]
theorem st_eq {V:RvI→GsI→HpI} {r:RvI} {e l t:Int} (hr:rvB r=true) (hF:∀ i,i < 17→OkH (seqH V r e l t i)):stH V r e l t=(opL r t).map fun c=>syF r.1 (cnZ e c) (seqH V r e l t):=by
 unfold stH
 exact List.map_congr_left fun c hc=>sy_eq (rvB_in hr).2.2 (rv1_17 (op_rv hr t) hc) hF
theorem syF_ok {d:Int} (hd:1≤d∧d≤1000) {c:List Int} (hc:C17 c) {F:Nat→HpI} (hF:∀ i,i < 17→OkH (F i)):OkH (syF d c F):=by
 have a:∀ i,i < 17→0≤loS F i∧loS F i≤65536:=fun i hi=>⟨(hF i hi).lo,Int.le_trans (hF i hi).le (hF i hi).hi⟩
 have b:∀ i,i < 17→0≤hiS F i∧hiS F i≤65536:=fun i hi=>⟨Int.le_trans (hF i hi).lo (hF i hi).le,(hF i hi).hi⟩
 exact ⟨mqL_nn hc.bd hd a,mq_le hc.bd hd fun i hi=>(hF i hi).le,mqH_top hc.bd hd b⟩
/-! What is chosen. -/
abbrev H0:HpI:=(0,0,())
def chA (t:Int) (L:List HpI) (i:Nat):HpI:=((chN (opT t) L i).1,(chN (opT t) L i).2,())
theorem chO_at (t:Int) (L:List HpI):chO t L=chA t L (L.length - 1):=rfl
theorem opT_or (t:Int):(t=0∧opT t=mxI)∨(t≠0∧opT t=mnI):=by
 by_cases h:t=0
 ·subst h; exact .inl ⟨rfl,rfl⟩
 ·exact .inr ⟨h,by unfold opT; rw [show (t==0)=false from beq_eq_false_iff_ne.2 h]; rfl⟩
theorem chA_ok {t:Int} {L:List HpI}:∀ i,(∀ j,j≤i→OkH (L.getD j H0))→OkH (chA t L i)
 | 0,h=>h 0 (Nat.le_refl _)
 | i + 1,h=>by
   have h1:=chA_ok (t:=t) i fun j hj=>h j (by omega)
   have h2:=h (i + 1) (Nat.le_refl _)
   have e:chA t L (i + 1)=(opT t (chA t L i).1 (L.getD (i + 1) H0).1,opT t (chA t L i).2.1 (L.getD (i + 1) H0).2.1,()):=rfl
   rw [e]
   generalize chA t L i=a at h1
   generalize L.getD (i + 1) H0=b at h2
   obtain ⟨a1,a2,a3⟩:=h1
   obtain ⟨b1,b2,b3⟩:=h2
   rcases opT_or t with ⟨_,o⟩ | ⟨_,o⟩<;>rw [o]
   ·rcases mxI_or a.1 b.1 with ⟨_,e1⟩ | ⟨_,e1⟩<;>rcases mxI_or a.2.1 b.2.1 with ⟨_,e2⟩ | ⟨_,e2⟩<;>rw [e1,e2]<;>constructor<;>simp only []<;>omega
   ·rcases mnI_or a.1 b.1 with ⟨_,e1⟩ | ⟨_,e1⟩<;>rcases mnI_or a.2.1 b.2.1 with ⟨_,e2⟩ | ⟨_,e2⟩<;>rw [e1,e2]<;>constructor<;>simp only []<;>omega
theorem chO_ok {t:Int} {L:List HpI} (h0:0 < L.length) (h:∀ x∈L,OkH x):OkH (chO t L):=by
 rw [chO_at]
 refine chA_ok _ fun j hj=>?_
 have hl:j < L.length:=by omega
 rw [List.getD_eq_getElem?_getD,List.getElem?_eq_getElem hl]
 exact h _ (List.getElem_mem hl)
/-! Hopes. -/
theorem su_ok (b:Bool):OkH (suV b,suV b,()):=by cases b<;>constructor<;>decide
theorem op_ne {r:RvI} (hr:rvB r=true) (t:Int):0 < (opL r t).length:=by
 have:=(rv1_in (op_rv hr t)).1; omega
theorem st_ok {V:RvI→GsI→HpI} {r:RvI} {e l t:Int} (hr:rvB r=true) (hF:∀ i,i < 17→OkH (seqH V r e l t i)):∀ x∈stH V r e l t,OkH x:=by
 rw [st_eq hr hF]
 intro x hx
 obtain ⟨c,hc,rfl⟩:=List.mem_map.1 hx
 exact syF_ok (rvB_in hr).2.2 (cnZ_17 (rv1_17 (op_rv hr t) hc) e) hF
theorem st_len (V:RvI→GsI→HpI) (r:RvI) (e l t:Int):(stH V r e l t).length=(opL r t).length:=List.length_map ..
theorem hv_ok {r:RvI} (hr:rvB r=true):∀ (n:Nat) (e l t:Int),e=(n:Int)→stB (e,l,t,())=true→OkH (hv r (e,l,t,()))
 | n,e,l,t,he,hs=>by
   have hF:∀ i,i < 17→OkH (seqH hv r e l t i):=fun i hi=>by
    unfold seqH hpO
    by_cases h0:e > 0
    ·rw [decide_eq_true h0,cond_true]
     match n,he with
     | 0,he=>omega
     | n + 1,he=>
       have hb:=(stB_in hs).1
       refine hv_ok hr n _ _ _ ?_ (nx_st hs h0)
       rw [nx_e h0 hb.2]; omega
    ·rw [decide_eq_false h0,cond_false]
     exact su_ok _
   have hb:=(stB_in hs).1
   rw [hv_eq hb.1 hb.2]
   cases e==0&&l != 0
   ·exact chO_ok (by rw [st_len]; exact op_ne hr t) (st_ok hr hF)
   ·exact su_ok _
theorem seq_ok {r:RvI} (hr:rvB r=true) {e l t:Int} (hs:stB (e,l,t,())=true) (i:Nat):OkH (seqH hv r e l t i):=by
 unfold seqH hpO
 by_cases h0:e > 0
 ·rw [decide_eq_true h0,cond_true]
  have h1:=nx_st (p:=(i:Int) - 8) hs h0
  exact hv_ok hr (nxE e).toNat _ _ _ (by have:=(stB_in h1).1.1; exact (Int.toNat_of_nonneg this).symm) h1
 ·rw [decide_eq_false h0,cond_false]
  exact su_ok _
theorem sel_op {r:RvI} {t:Int} (ht:hmB t=true) {α:Type} (f:List (List Int)→Option α):sel2 r.2.1 r.2.2 t f=f (opL r t):=by
 unfold hmB at ht
 rw [Bool.or_eq_true,beq_iff_eq,beq_iff_eq] at ht
 rcases ht with rfl | rfl<;>rfl
def loL (V:RvI→GsI→HpI) (r:RvI) (e l t:Int) (i:Nat):List Int:=(List.range i).map fun j=>(seqH V r e l t j).1
def hiL (V:RvI→GsI→HpI) (r:RvI) (e l t:Int) (i:Nat):List Int:=(List.range i).map fun j=>(seqH V r e l t j).2.1
theorem loL_at (V:RvI→GsI→HpI) (r:RvI) (e l t:Int) {n i:Nat} (hi:i < n):atL (loL V r e l t n) i=loS (seqH V r e l t) i:=by
 unfold atL loL
 rw [List.getD_eq_getElem?_getD,List.getElem?_map,List.getElem?_range hi]; rfl
theorem hiL_at (V:RvI→GsI→HpI) (r:RvI) (e l t:Int) {n i:Nat} (hi:i < n):atL (hiL V r e l t n) i=hiS (seqH V r e l t) i:=by
 unfold atL hiL
 rw [List.getD_eq_getElem?_getD,List.getElem?_map,List.getElem?_range hi]; rfl
def rsS (V:RvI→GsI→HpI) (W:RvI→GsI→MpI→MpI) (r:RvI) (e l t:Int) (M:MpI) (i:Nat):RsS:=(pnM W r e l t M i,loL V r e l t i,hiL V r e l t i,(i:Int),())
theorem rsQ_eq {α:Type} {V:RvI→GsI→HpI} {W:RvI→GsI→MpI→MpI} {r:RvI} {e l t:Int} {M:MpI} {i:Nat} (hi:i < 17) {M':MpI} {lo hi':Int} (hM:M'=pnM W r e l t M (i + 1)) (h1:lo=(seqH V r e l t i).1) (h2:hi'=(seqH V r e l t i).2.1) :
  rsQ (α:=α) M' lo hi' (rsS V W r e l t M i)=some (.cont (rsS V W r e l t M (i + 1))):=by
 subst hM; subst h1; subst h2
 have l1:(loL V r e l t i).length=i:=by unfold loL; rw [List.length_map,List.length_range]
 have l2:(hiL V r e l t i).length=i:=by unfold hiL; rw [List.length_map,List.length_range]
 have hr:room ≥ 10000:=by decide
 have r1:((loL V r e l t i).length + 1) * 8≤room:=by rw [l1]; omega
 have r2:((hiL V r e l t i).length + 1) * 8≤room:=by rw [l2]; omega
 have e1:loL V r e l t (i + 1)=loL V r e l t i++[(seqH V r e l t i).1]:=by unfold loL; rw [List.range_succ,List.map_append]; rfl
 have e2:hiL V r e l t (i + 1)=hiL V r e l t i++[(seqH V r e l t i).2.1]:=by unfold hiL; rw [List.range_succ,List.map_append]; rfl
 unfold rsQ rsS
 simp only []
 rw [if_pos (show ((loL V r e l t i).length + [(seqH V r e l t i).1].length) * 8≤room from r1),if_pos (show ((hiL V r e l t i).length + [(seqH V r e l t i).2.1].length) * 8≤room from r2),e1,e2,wrap_next hi (show (17:Nat)≤maxLen by decide)]
theorem rsF_eq {α:Type} {D:RvI→GsI→MpI→Bool} {V:RvI→GsI→HpI} {W:RvI→GsI→MpI→MpI} {r:RvI} {e l t:Int} (ht:hmB t=true) {M:MpI} {i:Nat} (hi:i < 17) (hD:e > 0→D r (nxG e l t ((i:Int) - 8)) (pnM W r e l t M i)=true) :
  ntrsF (α:=α) D V W r e l t (rsS V W r e l t M i)=some (.cont (rsS V W r e l t M (i + 1))):=by
 have hw:IntKind.i64.wrap ((i:Int) - 8)=(i:Int) - 8:=by rw [IntKind.wrap_i64]; omega
 have hp:ptB ((i:Int) - 8)=true:=by
  unfold ptB
  rw [decide_eq_true (by omega),decide_eq_true (by omega)]; rfl
 have ht':=ht
 unfold hmB at ht'
 rw [Bool.or_eq_true,beq_iff_eq,beq_iff_eq] at ht'
 have h17:decide ((i:Int) < 17)=true:=decide_eq_true (by omega)
 unfold ntrsF
 show (bif decide ((i:Int) < 17) then _ else _)=_
 rw [h17,cond_true]
 show (bif decide (e > 0) then bif hmB t&&ptB (IntKind.i64.wrap ((i:Int) - 8)) then bif D r (nxG e l t (IntKind.i64.wrap ((i:Int) - 8))) (pnM W r e l t M i) then rsQ (W r (nxG e l t (IntKind.i64.wrap ((i:Int) - 8))) (pnM W r e l t M i)) (V r (nxG e l t (IntKind.i64.wrap ((i:Int) - 8)))).1 (V r (nxG e l t (IntKind.i64.wrap ((i:Int) - 8)))).2.1 _ else none else none
  else bif decide ((i:Int) > 8) then bif t==0 then rsQ (pnM W r e l t M i) 65536 65536 _ else bif decide ((i:Int) < 8) then bif t==1 then rsQ (pnM W r e l t M i) 65536 65536 _ else rsQ (pnM W r e l t M i) 0 0 _ else rsQ (pnM W r e l t M i) 0 0 _
   else bif decide ((i:Int) < 8) then bif t==1 then rsQ (pnM W r e l t M i) 65536 65536 _ else rsQ (pnM W r e l t M i) 0 0 _ else rsQ (pnM W r e l t M i) 0 0 _)=_
 rw [hw,ht,hp]
 by_cases he:e > 0
 ·rw [decide_eq_true he,hD he]
  exact rsQ_eq hi (by rw [pnM,decide_eq_true he]; rfl) (by unfold seqH hpO; rw [decide_eq_true he]; rfl) (by unfold seqH hpO; rw [decide_eq_true he]; rfl)
 ·rw [decide_eq_false he,cond_false]
  have hM:pnM W r e l t M i=pnM W r e l t M (i + 1):=by rw [pnM,decide_eq_false he]; rfl
  have hs:seqH V r e l t i=(suV (suB t ((i:Int) - 8)),suV (suB t ((i:Int) - 8)),()):=by unfold seqH hpO; rw [decide_eq_false he]; rfl
  have one:suB t ((i:Int) - 8)=true→rsQ (α:=α) (pnM W r e l t M i) 65536 65536 (rsS V W r e l t M i)=some (.cont (rsS V W r e l t M (i + 1))):=fun h=>rsQ_eq hi hM (by rw [hs,h]; rfl) (by rw [hs,h]; rfl)
  have zer:suB t ((i:Int) - 8)=false→rsQ (α:=α) (pnM W r e l t M i) 0 0 (rsS V W r e l t M i)=some (.cont (rsS V W r e l t M (i + 1))):=fun h=>rsQ_eq hi hM (by rw [hs,h]; rfl) (by rw [hs,h]; rfl)
  have hsu:suB t ((i:Int) - 8)=((decide ((i:Int) > 8)&&t==0) || (decide ((i:Int) < 8)&&t==1)):=by
   unfold suB
   rw [show decide ((i:Int) - 8 > 0)=decide ((i:Int) > 8) from decide_eq_decide.2 (by omega),show decide ((i:Int) - 8 < 0)=decide ((i:Int) < 8) from decide_eq_decide.2 (by omega)]
  have h89:decide ((i:Int) > 8)=true→decide ((i:Int) < 8)=false:=fun h=>decide_eq_false (by have:=of_decide_eq_true h; omega)
  cases g:decide ((i:Int) > 8)
  ·rw [cond_false]
   cases b:decide ((i:Int) < 8)
   ·exact zer (by rw [hsu,g,b]; rfl)
   ·rw [cond_true]
    cases c:t==1
    ·exact zer (by rw [hsu,g,b,c]; rfl)
    ·exact one (by rw [hsu,g,b,c]; rfl)
  ·rw [cond_true,h89 g]
   cases c:t==0
   ·exact zer (by rw [hsu,g,h89 g,c]; rfl)
   ·exact one (by rw [hsu,g,c]; rfl)
theorem rsA_eq {α:Type} {D:RvI→GsI→MpI→Bool} {V:RvI→GsI→HpI} {W:RvI→GsI→MpI→MpI} {r:RvI} {e l t:Int} (hr:rvB r=true) (ht:hmB t=true) {M:MpI} (hD:∀ i:Nat,i < 17→e > 0→D r (nxG e l t ((i:Int) - 8)) (pnM W r e l t M i)=true)
  (hF:∀ i,i < 17→OkH (seqH V r e l t i)) {n:Int} (hn:0≤n∧n < ((opL r t).length:Int)) (K:HpI→MpI→Option α) :
  rsA 20 D V W r e l t n M K=K (syF r.1 (cnZ e ((opL r t).getD n.toNat [])) (seqH V r e l t)) (pnM W r e l t M 17):=by
 have hB:∀ c,C17 c→rsB' 20 D V W r e l t c M K=K (syF r.1 c (seqH V r e l t)) (pnM W r e l t M 17):=fun c hc=>by
  unfold rsB'
  refine (count_loop (f:=ntrsF D V W r e l t) (rsS V W r e l t M) 17 (fun i hi=>rsF_eq ht hi (hD i hi)) (y:=rsS V W r e l t M 17) (b:=0) (by unfold ntrsF; rfl) (by omega)).trans ?_
  have v1:V17 (loL V r e l t 17):=⟨by unfold loL; rw [List.length_map,List.length_range],fun i hi=>by
   rw [loL_at V r e l t hi]
   have:=hF i hi
   exact ⟨this.lo,Int.le_trans this.le this.hi⟩⟩
  have v2:V17 (hiL V r e l t 17):=⟨by unfold hiL; rw [List.length_map,List.length_range],fun i hi=>by
   rw [hiL_at V r e l t hi]
   have:=hF i hi
   exact ⟨Int.le_trans this.lo this.le,this.hi⟩⟩
  have hd:=(rvB_in hr).2.2
  rw [if_pos rfl]
  show (bif m17B c (loL V r e l t 17) r.1 then bif m17B c (hiL V r e l t 17) r.1 then K (mqL (atL c) (atL (loL V r e l t 17)) 17 r.1,mqH (atL c) (atL (hiL V r e l t 17)) 17 r.1,()) (pnM W r e l t M 17) else none else none)=_
  rw [m17_to hc v1 hd,m17_to hc v2 hd,mqL_congr fun i hi=>loL_at V r e l t hi,mqH_congr fun i hi=>hiL_at V r e l t hi]
  rfl
 have hi:n.toNat < (opL r t).length:=by omega
 have hc:C17 ((opL r t).getD n.toNat []):=rv1_17 (op_rv hr t) (by rw [List.getD_eq_getElem?_getD,List.getElem?_eq_getElem hi]; exact List.getElem_mem hi)
 have hz:=cnZ_17 hc e
 have hroom:room ≥ 10000:=by decide
 unfold rsA
 rw [sel_op ht,if_pos hn,if_pos (show ((List.nil (α:=Int)).length + ((opL r t).getD n.toNat []).length) * 8≤room by rw [hc.len]; simp only [List.length_nil]; omega),List.nil_append]
 cases he:e==0
 ·rw [cond_false,hB _ hc]
  unfold cnZ
  rw [he]; rfl
 ·rw [cond_true,if_pos (by rw [hc.len]; omega)]
  unfold cnZ at hz ⊢
  rw [he] at hz ⊢
  exact hB _ hz
/-! The map behind. -/
def rpN (f:MpI→MpI) (M:MpI):Nat→MpI
 | 0=>M
 | j + 1=>f (rpN f M j)
def wrN:Nat→RvI→GsI→MpI→MpI
 | 0,r,s,M=>bif s.2.1 != 0 then M else bif (mpFind GsSh HpSh s M).isSome then M else mpPut GsSh HpSh s (hv r s) M
 | n + 1,r,s,M=>bif (mpFind GsSh HpSh s M).isSome then M else mpPut GsSh HpSh s (hv r s) (rpN (fun M=>pnM (wrN n) r s.1 s.2.1 s.2.2.1 M 17) M (opL r s.2.2.1).length)
def wr (r:RvI) (s:GsI) (M:MpI):MpI:=wrN s.1.toNat r s M
theorem gd_rp {r:RvI} {f:MpI→MpI} (hf:∀ M,gdB r M=true→gdB r (f M)=true) {M:MpI} (h:gdB r M=true):∀ j,gdB r (rpN f M j)=true
 | 0=>h
 | j + 1=>hf _ (gd_rp hf h j)
theorem gd_wrN {r:RvI}:∀ (n:Nat) (s:GsI) (M:MpI),gdB r M=true→gdB r (wrN n r s M)=true
 | 0,s,M,h=>by
   rw [wrN]
   cases s.2.1 != 0
   ·cases (mpFind GsSh HpSh s M).isSome
    ·exact gd_put h s
    ·exact h
   ·exact h
 | n + 1,s,M,h=>by
   rw [wrN]
   cases (mpFind GsSh HpSh s M).isSome
   ·exact gd_put (gd_rp (fun M hM=>gd_fold (gd_wrN n) _ _ _ hM 17) h _) s
   ·exact h
theorem gd_wr {r:RvI} (s:GsI) (M:MpI) (h:gdB r M=true):gdB r (wr r s M)=true:=gd_wrN _ s M h
theorem rp_id {f:MpI→MpI} (hf:∀ M,f M=M) (M:MpI):∀ j,rpN f M j=M
 | 0=>rfl
 | j + 1=>by rw [rpN,hf,rp_id hf M j]
theorem wr_eq {r:RvI} {e l t:Int} {M:MpI} (h0:0≤e) (h1:e≤12):wr r (e,l,t,()) M=bif e==0&&l != 0 then M else bif (mpFind GsSh HpSh (e,l,t,()) M).isSome then M else mpPut GsSh HpSh (e,l,t,()) (hv r (e,l,t,())) (rpN (fun M=>pnM wr r e l t M 17) M (opL r t).length):=by
 by_cases he:e=0
 ·subst he
  show wrN 0 r (0,l,t,()) M=_
  rw [wrN,rp_id fun M=>pnM_zero wr r l t M 17]
  rfl
 ·obtain ⟨n,hn⟩:∃ n:Nat,e=(n:Int) + 1:=⟨(e - 1).toNat,by omega⟩
  have hz:wr r (e,l,t,()) M=wrN (n + 1) r (e,l,t,()) M:=by
   show wrN e.toNat r _ _=_
   rw [show e.toNat=n + 1 by omega]
  have hf:(fun M=>pnM (wrN n) r e l t M 17)=fun M=>pnM wr r e l t M 17:=by
   funext M
   refine pnM_congr (V:=wrN n) (V':=wr) (fun p M h=>?_) M 17
   show _=wrN (nxE e).toNat r _ M
   rw [nx_e (by omega) h1,show (e - 1).toNat=n by omega]
  rw [hz,wrN,show (e==0)=false from beq_eq_false_iff_ne.2 he,Bool.false_and,cond_false]
  simp only []
  rw [hf]
  rfl
/-! The levels. -/
def zD (k:Nat) (r:RvI) (s:GsI) (n:Int) (M:MpI):Bool:=rvB r&&(stB s&&(decide (s.1≤(k:Int))&&(gdB r M&&(decide (0≤n)&&decide (n < ((opL r s.2.2.1).length:Int))))))
def zV (r:RvI) (s:GsI) (n:Int):HpI:=syF r.1 (cnZ s.1 ((opL r s.2.2.1).getD n.toNat [])) (seqH hv r s.1 s.2.1 s.2.2.1)
def zW (r:RvI) (s:GsI) (_:Int) (M:MpI):MpI:=pnM wr r s.1 s.2.1 s.2.2.1 M 17
theorem rz_step (k:Nat) (r:RvI) (e l t n:Int) (M:MpI) (h:zD k r (e,l,t,()) n M=true) (K:HpI→MpI→HdO):rsA 20 (hpD k) hv wr r e l t n M K=K (zV r (e,l,t,()) n) (zW r (e,l,t,()) n M):=by
 unfold zD at h
 simp only [Bool.and_eq_true,decide_eq_true_eq] at h
 obtain ⟨hr,hs,hk,hg,hn⟩:=h
 exact rsA_eq hr (stB_hm hs) (fun i _ he=>by
  unfold hpD
  simp only [Bool.and_eq_true,decide_eq_true_eq]
  refine ⟨hr,nx_st hs he,?_,gd_fold gd_wr e l t hg i⟩
  show nxE e < _
  rw [nx_e he (stB_in hs).1.2]; omega) (fun i _=>seq_ok hr hs i) hn K
theorem rv_step (k:Nat) (r:RvI) (e l t:Int) (M:MpI) (h:hpD (k + 1) r (e,l,t,()) M=true):rvT 20 (zD k) zV zW r M e l t=rvR (hv r (e,l,t,())).1 (hv r (e,l,t,())).2.1 (wr r (e,l,t,()) M):=by
 unfold hpD at h
 simp only [Bool.and_eq_true,decide_eq_true_eq] at h
 obtain ⟨hr,hs,hk,hg⟩:=h
 have hb:=stB_in hs
 have ht:=stB_hm hs
 have e0:0≤e:=hb.1.1
 have e12:e≤12:=hb.1.2
 have ehv:=hv_eq (r:=r) (l:=l) (t:=t) e0 e12
 have ewr:=wr_eq (r:=r) (l:=l) (t:=t) (M:=M) e0 e12
 have hU:(e==0&&l != 0)=false→rvU 20 (zD k) zV zW r M e l t=rvR (hv r (e,l,t,())).1 (hv r (e,l,t,())).2.1 (wr r (e,l,t,()) M):=fun hz=>by
  rw [hz,cond_false] at ehv ewr
  unfold rvU
  cases hf:mpFind GsSh HpSh (e,l,t,()) M with
  | some v=>
    rw [hf] at ewr
    rw [ewr]
    have hv':=gd_find hg hf
    have hfd:fdH (e,l,t,()) M=hv r (e,l,t,()):=(congrArg (fun o=>Option.getD (α:=HpI) o (0,0,())) hf).trans hv'
    rw [hfd]
    rfl
  | none=>
    rw [hf] at ewr
    replace ewr:wr r (e,l,t,()) M=mpPut GsSh HpSh (e,l,t,()) (hv r (e,l,t,())) (rpN (fun M=>pnM wr r e l t M 17) M (opL r t).length):=ewr
    rw [ewr,ehv]
    have hO:=st_len hv r e l t
    have hp:=op_ne hr t
    have h8:(opL r t).length≤8:=(rv1_in (op_rv hr t)).2.1
    have hgr:=fun j=>gd_rp (f:=fun M=>pnM wr r e l t M 17) (fun M hM=>gd_fold gd_wr e l t hM 17) hg j
    have hzD:∀ j,j < (opL r t).length→zD k r (e,l,t,()) (j:Int) (rpN (fun M=>pnM wr r e l t M 17) M j)=true:=fun j hj=>by
     unfold zD
     simp only [Bool.and_eq_true,decide_eq_true_eq]
     exact ⟨hr,hs,by omega,hgr j,by omega,by omega⟩
    have hV:∀ j,j < (opL r t).length→zV r (e,l,t,()) (j:Int)=(stH hv r e l t).getD j H0:=fun j hj=>by
     rw [st_eq hr fun i _=>seq_ok hr hs i,List.getD_eq_getElem?_getD,List.getElem?_map,List.getElem?_eq_getElem hj]
     unfold zV
     rw [Int.toNat_natCast,List.getD_eq_getElem?_getD,List.getElem?_eq_getElem hj]
     rfl
    have z0:=hzD 0 hp
    have v0:=hV 0 hp
    rw [show ((0:Nat):Int)=0 from rfl] at z0 v0
    show (bif zD k r (e,l,t,()) 0 M then _ else none)=_
    rw [show zD k r (e,l,t,()) 0 M=true from z0,cond_true,v0]
    refine (count_loop (f:=rlF (zD k) zV zW r e l t) (fun i:Nat=>(rpN (fun M=>pnM wr r e l t M 17) M (i + 1),((i + 1:Nat):Int),(chN (opT t) (stH hv r e l t) i).1,(chN (opT t) (stH hv r e l t) i).2,())) ((opL r t).length - 1) (fun i hi=>?_)
     (y:=(rpN (fun M=>pnM wr r e l t M 17) M (opL r t).length,((opL r t).length:Int),(chN (opT t) (stH hv r e l t) ((opL r t).length - 1)).1,(chN (opT t) (stH hv r e l t) ((opL r t).length - 1)).2,())) (b:=0) ?_ (by omega)).trans ?_
    ·have hi1:i + 1 < (opL r t).length:=by omega
     have hmx:(opL r t).length≤maxLen:=by have:maxLen=9223372036854775807:=rfl; omega
     unfold rlF
     rw [sel_op ht]
     simp only []
     rw [lt_len hi1,cond_true,hzD (i + 1) hi1,cond_true,hV (i + 1) hi1,wrap_next hi1 hmx]
     rcases opT_or t with ⟨rfl,o⟩ | ⟨h0,o⟩
     ·show some _=some _
      rw [chN,o]
      rfl
     ·rw [show (t==0)=false from beq_eq_false_iff_ne.2 h0,cond_false,chN,o]
      rfl
    ·have e1:(opL r t).length - 1 + 1=(opL r t).length:=by omega
     unfold rlF
     rw [sel_op ht]
     simp only [e1,not_lt_len,cond_false]
    ·rw [if_pos rfl]
     unfold chO chX
     rw [hO]
     rfl
 unfold rvT rvZ
 cases h0:e==0
 ·exact hU (by rw [h0]; rfl)
 ·rw [cond_true,cond_true]
  by_cases hl:l > 0
  ·have hl':(l != 0)=true:=bne_iff_ne.2 (by omega)
   rw [h0,hl'] at ehv ewr
   rw [ehv,ewr,decide_eq_true hl]; rfl
  ·rw [decide_eq_false hl,cond_false]
   by_cases hl2:l < 0
   ·have hl':(l != 0)=true:=bne_iff_ne.2 (by omega)
    rw [h0,hl'] at ehv ewr
    rw [ehv,ewr,decide_eq_true hl2,decide_eq_false hl]; rfl
   ·rw [decide_eq_false hl2,cond_false]
    have hl0:l=0:=by omega
    exact hU (by rw [hl0]; simp)
theorem flat_ints (l:List Int):Flat (.agg (l.map fun n=>.int .i64 n)):=fun σ I=>.agg _ _ rfl fun j c d hc hd=>by
 rw [hc] at hd; cases hd
 rw [List.getElem?_map] at hc
 cases hl:l[j]? with
 | none=>rw [hl] at hc; cases hc
 | some n=>rw [hl] at hc; cases hc; exact .flat _ rfl
theorem flat_rv (d:Int) (A B:List (List Int)):Flat (.agg [.int .i64 d,.ro LsSh A,.ro LsSh B]):=fun σ I=>.agg _ _ rfl fun j c d' hc hd=>by
 rw [hc] at hd; cases hd
 match j,hc with
 | 0,hc=>cases hc; exact .flat _ rfl
 | 1,hc=>cases hc; exact .flat _ rfl
 | 2,hc=>cases hc; exact .flat _ rfl
 | j + 3,hc=>simp at hc
theorem flat_int (n:Int):Flat (.int .i64 n):=fun _ _=>.flat _ rfl
theorem hd_get {fs:FuncId→Option Fsp} (hfs:FsOk fs) {sp:FuncId→Option (Cv→Cv)} (hsp:SpOk sp) {N n:Nat} {fn:Func} {args:List AVal} {h:List ABlk} {u:AVal} {b:ABlk} (e:evBody real tab ((twR fs sp).env real tab N n) N fn (α:=AExit × AVal × Option ABlk) args h hd1=some (.normal,u,some b)) :
  ∃ hs,evBody real tab ((twR fs sp).env real tab N n) N fn args h tripE=some (.normal,u,hs)∧hs[0]?=some b:=by
 rw [body_nat (tower_ok mixedT tabOk (twR_ok hfs hsp) N n) N fn args h hd1] at e
 cases hq:evBody real tab ((twR fs sp).env real tab N n) N fn args h tripE with
 | none=>rw [hq] at e; cases e
 | some p=>
   obtain ⟨x,v,hs⟩:=p
   rw [hq] at e
   have e':some (x,v,hs[0]?)=some (AExit.normal,u,some b):=e
   simp only [Option.some.injEq,Prod.mk.injEq] at e'
   obtain ⟨rfl,rfl,h0⟩:=e'
   exact ⟨hs,rfl,h0⟩
theorem rvX_nat (D:RvI→GsI→MpI→Bool) (V:RvI→GsI→HpI) (W:RvI→GsI→MpI→MpI) (cv:Cv) (α:Type) (v:AVal) (args:List AVal) (h:List ABlk) (k:AExit→AVal→List ABlk→Option α):rvX D V W cv α v args h k=(rvX D V W cv (AExit × AVal × List ABlk) v args h tripE).bind fun p=>k p.1 p.2.1 p.2.2:=by
 unfold rvX
 split
 ·split
  ·split
   ·rw [cond_bind]; rfl
   ·rfl
  ·rfl
 ·rfl
theorem rzX_nat (D:RvI→GsI→Int→MpI→Bool) (V:RvI→GsI→Int→HpI) (W:RvI→GsI→Int→MpI→MpI) (cv:Cv) (α:Type) (v:AVal) (args:List AVal) (h:List ABlk) (k:AExit→AVal→List ABlk→Option α):rzX D V W cv α v args h k=(rzX D V W cv (AExit × AVal × List ABlk) v args h tripE).bind fun p=>k p.1 p.2.1 p.2.2:=by
 unfold rzX
 split
 ·split
  ·split
   ·rw [cond_bind]; rfl
   ·rfl
  ·rfl
 ·rfl
theorem flat_hp (x y:Int):Flat (hpA x y):=flat_ints [x,y]
theorem rz_at {k:Nat} (hv':∀ cv caps,CvAt Tryz.prog (rvX (hpD k) hv wr cv) (.fn 70 caps)) (cv:Cv) (caps:List AVal):CvAt Tryz.prog (rzX (zD k) zV zW cv) (.fn 116 caps):=by
 have hsp:SpOk (spV (hpD k) hv wr):=sp_cons (fun cv _ caps=>hv' cv caps) spK_ok
 refine ro_at ⟨Tryz.func116,fun _ _=>by kernel_rfl⟩ fsT4_ok hsp (fun cs args hp α k hc=>?_) (fun α args hp k=>rzX_nat ..) fun args hp x u h1 hk=>?_
 ·unfold rzX
  cases cs with
  | nil=>exact absurd rfl hc
  | cons c cs=>rfl
 ·unfold rzX at hk
  split at hk
  case h_2=>cases hk
  rename_i f d A B e l t n q hcaps
  split at hk
  case h_2=>cases hk
  rename_i t' M hrow
  split at hk
  case isFalse=>cases hk
  rename_i hh
  obtain ⟨rfl,rfl⟩:=hh
  cases hD:zD k (d,A,B) (e,l,t,()) n M
  ·rw [hD] at hk; cases hk
  rw [hD] at hk
  cases hk
  refine ⟨[.agg [.int .i64 d,.ro LsSh A,.ro LsSh B],.agg [.int .i64 e,.int .i64 l,.int .i64 t],.int .i64 n],q,M,_,rfl,?_,getD_box (by simp) hrow,rfl,flat_hp _ _,rfl,20,30,?_⟩
  ·intro p hp
   simp only [List.mem_cons,List.not_mem_nil,or_false] at hp
   rcases hp with rfl | rfl | rfl
   ·exact flat_rv d A B
   ·exact flat_ints [e,l,t]
   ·exact flat_int n
  ·exact hd_get fsT4_ok hsp ((rzs_body 20 0 _ _ _ d A B M e l t n).trans (rz_step k (d,A,B) e l t n M hD _))
theorem rv_at:∀ (k:Nat) (cv:Cv) (caps:List AVal),CvAt Tryz.prog (rvX (hpD k) hv wr cv) (.fn 70 caps)
 | k,cv,caps=>by
   have hsp:0 < k→SpOk (spZ (zD (k - 1)) zV zW):=fun h0=>sp_cons (fun cv _ caps=>rz_at (fun cv caps=>rv_at (k - 1) cv caps) cv caps) spK_ok
   have none':∀ r s M,k=0→hpD k r s M=false:=fun r s M h0=>by
    subst h0
    cases h:hpD 0 r s M
    ·rfl
    ·unfold hpD at h
     simp only [Bool.and_eq_true,decide_eq_true_eq] at h
     have:=(stB_in h.2.1).1.1
     omega
   have step:∀ args hp x u h1,rvX (hpD k) hv wr cv (AExit × AVal × List ABlk) (.fn 70 []) args hp tripE=some (x,u,h1)→0 < k∧∃ d A B e l t q M,args=[.agg [.int .i64 d,.ro LsSh A,.ro LsSh B],.agg [.int .i64 e,.int .i64 l,.int .i64 t],.own q]∧hp[q]?=some (knR M)∧hpD k (d,A,B) (e,l,t,()) M=true ∧
     x=.normal∧u=hpA (hv (d,A,B) (e,l,t,())).1 (hv (d,A,B) (e,l,t,())).2.1∧h1=hp.set q (knR (wr (d,A,B) (e,l,t,()) M)):=fun args hp x u h1 hk=>by
    unfold rvX at hk
    split at hk
    case h_2=>cases hk
    rename_i f d A B e l t q hcaps
    split at hk
    case h_2=>cases hk
    rename_i t' M hrow
    split at hk
    case isFalse=>cases hk
    rename_i hh
    obtain ⟨_,rfl⟩:=hh
    cases hD:hpD k (d,A,B) (e,l,t,()) M
    ·rw [hD] at hk; cases hk
    rw [hD] at hk
    cases hk
    refine ⟨?_,d,A,B,e,l,t,q,M,rfl,getD_box (by simp) hrow,hD,rfl,rfl,rfl⟩
    rcases Nat.eq_zero_or_pos k with h0 | h0
    ·exact absurd ((none' (d,A,B) (e,l,t,()) M h0).symm.trans hD) (by simp)
    ·exact h0
   by_cases h0:0 < k
   ·refine ro_at (fs:=fsT4) (sp:=spZ (zD (k - 1)) zV zW) ⟨Tryz.func70,fun _ _=>by kernel_rfl⟩ fsT4_ok (hsp h0) (fun cs args hp α k hc=>?_) (fun α args hp k=>rvX_nat ..) fun args hp x u h1 hk=>?_
    ·unfold rvX
     cases cs with
     | nil=>exact absurd rfl hc
     | cons c cs=>rfl
    ·obtain ⟨_,d,A,B,e,l,t,q,M,rfl,hq,hD,rfl,rfl,rfl⟩:=step args hp x u h1 hk
     refine ⟨[.agg [.int .i64 d,.ro LsSh A,.ro LsSh B],.agg [.int .i64 e,.int .i64 l,.int .i64 t]],q,M,_,rfl,?_,hq,rfl,flat_hp _ _,rfl,20,30,?_⟩
     ·intro p hp
      simp only [List.mem_cons,List.not_mem_nil,or_false] at hp
      rcases hp with rfl | rfl
      ·exact flat_rv d A B
      ·exact flat_ints [e,l,t]
     ·refine hd_get fsT4_ok (hsp h0) ((rva_body 20 0 _ _ _ d A B M e l t).trans (rv_step (k - 1) (d,A,B) e l t M (by rw [show k - 1 + 1=k by omega]; exact hD)))
   ·refine ro_at (fs:=fsT4) (sp:=spK) ⟨Tryz.func70,fun _ _=>by kernel_rfl⟩ fsT4_ok spK_ok (fun cs args hp α k hc=>?_) (fun α args hp k=>rvX_nat ..) fun args hp x u h1 hk=>?_
    ·unfold rvX
     cases cs with
     | nil=>exact absurd rfl hc
     | cons c cs=>rfl
    ·exact absurd (step args hp x u h1 hk).1 h0
noncomputable def spR:FuncId→Option (Cv→Cv):=fun g=>
 if g=116 then some (rzX (zD 12) zV zW) else spV (hpD 13) hv wr g
theorem spR_ok:SpOk spR:=sp_cons (fun cv _ caps=>rz_at (fun cv caps=>rv_at 12 cv caps) cv caps) (sp_cons (fun cv _ caps=>rv_at 13 cv caps) spK_ok)
/-! As twR; nil slices in values that are built become rows. -/
/-! Blank. -/
/-! Styles. -/
/-! Blank. -/
end Go.Proofs.YtbkpklfjoifdbaaGreat
namespace Go.Proofs.YtbkpklfjoifdbaaGreat
theorem vl_split:∀ (l:List Int) (i:Nat),i≤l.length→vl l=vl (l.take i) + 32768 ^ i * vl (l.drop i)
 | l,0,_=>by simp [vl]
 | [],i + 1,h=>by simp at h
 | x :: r,i + 1,h=>by
   have ih:=vl_split r i (by simpa using h)
   simp only [List.take_succ_cons,List.drop_succ_cons,vl,Int.pow_succ]
   rw [ih,Int.mul_add,Int.mul_comm (32768 ^ i) 32768,Int.mul_assoc]
   omega
theorem low_take {l:List Int} (h:low15 l) (i:Nat):low15 (l.take i):=fun x hx=>h x (List.mem_of_mem_take hx)
theorem dg_ge:∀ n,0≤n→n≠0→32768 ^ ((dg n).length - 1)≤n:=dg_ind (fun h=>absurd rfl h) fun n h ih _=>by
 rw [dg_pos h]
 simp only [List.length_cons,Nat.add_sub_cancel]
 by_cases hz:n / 32768=0
 ·rw [hz,dg_zero]; simp; omega
 ·have h1:=ih hz
  have hne:dg (n / 32768)≠[]:=fun e=>hz ((dg_nil (by omega)).1 e)
  obtain ⟨m,hm⟩:∃ m,(dg (n / 32768)).length=m + 1:=⟨(dg (n / 32768)).length - 1,by have:=List.length_pos_iff.2 hne; omega⟩
  rw [hm] at h1 ⊢
  simp only [Nat.add_sub_cancel] at h1
  rw [Int.pow_succ]
  omega
theorem dg_lt (n:Int) (h:0≤n):n < 32768 ^ (dg n).length:=by
 have:=vl_lt (low_dg n h)
 rw [vl_dg n h] at this
 exact this
theorem pow_mono {i j:Nat} (h:i≤j):(32768:Int) ^ i≤32768 ^ j:=by
 obtain ⟨k,rfl⟩:∃ k,j=i + k:=⟨j - i,by omega⟩
 rw [Int.pow_add]
 have h1:=pow15 i
 have h2:=pow15 k
 have:=Int.mul_le_mul_of_nonneg_left (show 1≤(32768:Int) ^ k by omega) (Int.le_of_lt h1)
 omega
theorem dg_len_lt {a b:Int} (ha:0≤a) (hb:0≤b) (h:(dg a).length < (dg b).length):a < b:=by
 have h1:=dg_lt a ha
 have hz:b≠0:=fun e=>by subst e; simp [dg_zero] at h
 have h2:=dg_ge b hb hz
 have:=pow_mono (show (dg a).length≤(dg b).length - 1 by omega)
 omega
theorem dg_top {a b:Int} (ha:0≤a) (hb:0≤b) {i:Nat} (hia:i < (dg a).length) (hib:i < (dg b).length) (he:(dg a).drop (i + 1)=(dg b).drop (i + 1)) (h:(dg a).getD i 0 < (dg b).getD i 0):a < b:=by
 have s1:=vl_split (dg a) (i + 1) (by omega)
 have s2:=vl_split (dg b) (i + 1) (by omega)
 rw [vl_dg a ha] at s1
 rw [vl_dg b hb,← he] at s2
 rw [vl_take _ _ hia] at s1
 rw [vl_take _ _ hib] at s2
 have t1:=vl_lt (low_take (low_dg a ha) i)
 have t2:=vl_nn (low_take (low_dg b hb) i)
 rw [List.length_take,Nat.min_eq_left (by omega)] at t1
 have:=Int.mul_le_mul_of_nonneg_right (show (dg a).getD i 0 + 1≤(dg b).getD i 0 by omega) (Int.le_of_lt (pow15 i))
 rw [Int.add_mul] at this
 omega
theorem dg_eq {a b:Int} (ha:0≤a) (hb:0≤b) (h:dg a=dg b):a=b:=dg_inj ha hb h
theorem trim_dg {l:List Int} (h:low15 l):trimL l=dg (vl l):=(dg_vl h).symm
theorem dg_snoc {l:List Int} {x:Int} (hl:low15 l) (hx:0 < x∧x < 32768):dg (vl l + x * 32768 ^ l.length)=l++[x]:=by
 rw [← vl_append]
 have h2:low15 (l++[x]):=low_app hl ⟨by omega,hx.2⟩
 rw [dg_vl h2]
 clear hl h2
 induction l with
 | nil=>simp [trimL]; omega
 | cons a r ih=>
   simp only [List.cons_append,trimL,ih]
   split
   ·rename_i e; exact absurd e (by simp)
   ·rfl
end Go.Proofs.YtbkpklfjoifdbaaGreat
