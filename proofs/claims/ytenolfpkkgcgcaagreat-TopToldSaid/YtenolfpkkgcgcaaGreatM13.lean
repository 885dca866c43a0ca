/- Parts of the proof, in build order. -/
import Derived.Test.YtenolfpkkgcgcaaGreatM12
import Derived.Test.YtenolfpkkgcgcaaGreatM10
import Derived.Test.YtenolfpkkgcgcaaGreatM11
namespace Go.Proofs.YtenolfpkkgcgcaaGreat
open Go.RowKit
theorem bLo_ge (k:Nat) (l:List RdI) {q:RdI} (hq:q∈l) (e:q.1=(k:Int)):q.lo≤bLo l k:=by
 unfold bLo
 have mono:∀ (l:List RdI) (a:Int),a≤l.foldl (fun a r=>if r.1=(k:Int) then max a r.lo else a) a:=by
  intro l
  induction l with
  | nil=>intro a; exact Int.le_refl _
  | cons r l ih=>
    intro a
    refine Int.le_trans ?_ (ih _)
    show a≤(if r.1=(k:Int) then max a r.lo else a)
    split<;>omega
 have:∀ (l:List RdI) (a:Int),q∈l→q.lo≤l.foldl (fun a r=>if r.1=(k:Int) then max a r.lo else a) a:=by
  intro l
  induction l with
  | nil=>intro a h; cases h
  | cons r l ih=>
    intro a h
    rcases List.mem_cons.1 h with rfl | h
    ·refine Int.le_trans ?_ (mono l _)
     show q.lo≤(if q.1=(k:Int) then max a q.lo else a)
     rw [if_pos e]; omega
    ·exact ih _ h
 exact this l 0 hq
theorem bHi_le (k:Nat) (l:List RdI) {q:RdI} (hq:q∈l) (e:q.1=(k:Int)):bHi l k≤q.hi:=by
 unfold bHi
 have mono:∀ (l:List RdI) (a:Int),l.foldl (fun a r=>if r.1=(k:Int) then min a r.hi else a) a≤a:=by
  intro l
  induction l with
  | nil=>intro a; exact Int.le_refl _
  | cons r l ih=>
    intro a
    refine Int.le_trans (ih _) ?_
    show (if r.1=(k:Int) then min a r.hi else a)≤a
    split<;>omega
 have:∀ (l:List RdI) (a:Int),q∈l→l.foldl (fun a r=>if r.1=(k:Int) then min a r.hi else a) a≤q.hi:=by
  intro l
  induction l with
  | nil=>intro a h; cases h
  | cons r l ih=>
    intro a h
    rcases List.mem_cons.1 h with rfl | h
    ·refine Int.le_trans (mono l _) ?_
     show (if q.1=(k:Int) then min a q.hi else a)≤q.hi
     rw [if_pos e]; omega
    ·exact ih _ h
 exact this l _ hq
theorem bnd_self {n:Nat} {l:List RdI} (hl:l.length=n) (h:∀ k,k < n→(l.getD k rdD).1=(k:Int)∧0≤(l.getD k rdD).lo∧(l.getD k rdD).hi≤70368744177664):bndM n l=l:=by
 refine (bndM_ext n l l hl fun k hk=>?_).symm
 obtain ⟨e,h0,h1⟩:=h k hk
 have hm:l.getD k rdD∈l:=by
  rw [List.getD_eq_getElem?_getD,List.getElem?_eq_getElem (by omega)]
  exact List.getElem_mem _
 have only:∀ r∈l,r.1=(k:Int)→r=l.getD k rdD:=fun r hr er=>by
  obtain ⟨j,hj,rfl⟩:=List.mem_iff_getElem.1 hr
  have ej:l.getD j rdD=l[j]:=by rw [List.getD_eq_getElem?_getD,List.getElem?_eq_getElem hj]; rfl
  have:=(h j (by omega)).1
  rw [ej,er] at this
  have:k=j:=by omega
  subst this
  exact ej.symm
 have a1:bLo l k=(l.getD k rdD).lo:=Int.le_antisymm (bLo_le k _ h0 l fun r hr er=>by rw [only r hr er]; exact Int.le_refl _) (bLo_ge k l hm e)
 have a2:bHi l k=(l.getD k rdD).hi:=Int.le_antisymm (bHi_le k l hm e) (le_bHi k _ h1 l fun r hr er=>by rw [only r hr er]; exact Int.le_refl _)
 rw [a1,a2,← e]
theorem trN_get (l:List SnI) (a b:Int) (p:List Int) {n k:Nat} (hk:k < n):(trN l a b p n).getD k rdD=trR l a b p k:=by
 unfold trN
 rw [List.getD_eq_getElem?_getD,List.getElem?_map,List.getElem?_range hk]; rfl
theorem tr_self {l:List SnI} (h:snsB l=true) {a b:Int} {p:List Int} (hb:(List.range l.length).any (trBad l a b p)=false):bndM l.length (trN l a b p l.length)=trN l a b p l.length:=
 bnd_self (trN_len l a b p _) fun k hk=>by
  rw [trN_get l a b p hk]
  obtain ⟨g1,g2,_,_,g5⟩:=tr_good h hb hk
  exact ⟨g1,g2,g5⟩
theorem ex_self {l:List SnI} (h:snsB l=true):bndM l.length (exL l)=exL l:=
 bnd_self (exL_len h) fun k hk=>by
  rw [show (exL l).getD k rdD=exE l (k:Int) from exL_get h hk]
  have:=ex_in h hk
  exact ⟨rfl,this.1,this.2.2⟩
theorem one_of {q:ScI}:∀ {l:List ScI},(l.Pairwise fun p q=>scLt p q=true)→0 < l.length→(∀ p∈l,p=q)→l=[q]
 | [],_,h,_=>absurd h (Nat.lt_irrefl 0)
 | [x],_,_,h=>by rw [h x List.mem_cons_self]
 | x :: y :: l,hp,_,h=>by
   have e1:=h x List.mem_cons_self
   have e2:=h y (List.mem_cons_of_mem _ List.mem_cons_self)
   have:=(List.pairwise_cons.1 hp).1 y List.mem_cons_self
   rw [e1,e2,scLt_iff] at this
   omega
theorem tr_told {l:List SnI} (h:snsB l=true) {a b:Int} {p:List Int} (hb:(List.range l.length).any (trBad l a b p)=false) (hs:mptB l (trN l a b p l.length)=true):mptB l (exL l)=true∧ptS l (trN l a b p l.length)=ptS l (exL l):=by
 obtain ⟨hE,_⟩:=tr_bds h hb
 obtain ⟨xE,_⟩:=ex_bds h
 have hl:=(snsB_at h).1
 have eT:scR l (trN l a b p l.length)=scL (tmL l (trN l a b p l.length) 0) (tmL l (trN l a b p l.length) 1):=by unfold scR; rw [hE,tr_self h hb]; rfl
 have eX:scR l (exL l)=scL (tmL l (exL l) 0) (tmL l (exL l) 1):=by unfold scR; rw [xE,ex_self h]; rfl
 have hs':=hs
 unfold mptB at hs
 rw [Bool.and_eq_true,decide_eq_true_eq] at hs
 obtain ⟨q,hq⟩:=List.length_eq_one_iff.1 hs.2
 have hX:scR l (exL l)=[q]:=by
  have hp:0 < (scR l (exL l)).length:=xsc_pos h
  rw [eX] at hp ⊢
  refine one_of (scL_sorted _ _) hp fun x hx=>?_
  obtain ⟨d,_,hd,e⟩:=score_of (fun k hk=>by
   rw [show (exL l).getD k rdD=exE l (k:Int) from exL_get h hk]
   exact (ex_in h hk).2.1) hl hx
  have hm:dsS l d∈scL (tmL l (trN l a b p l.length) 0) (tmL l (trN l a b p l.length) 1):=score_in (fun k hk=>by
   have:=hd k hk
   rw [show (exL l).getD k rdD=exE l (k:Int) from exL_get h hk] at this
   rw [trN_get l a b p hk]
   obtain ⟨_,_,g3,g4,_⟩:=tr_good h hb hk
   omega) hl
  rw [← eT,hq,List.mem_singleton] at hm
  rw [← e,hm]
 have hB:mptB l (exL l)=true:=by
  unfold mptB
  rw [xE,hX]; rfl
 refine ⟨hB,?_⟩
 unfold ptS
 rw [hs',hB,hX,hq]
/-! Stones of a scene. -/
theorem stn_ok {l:List BdI} (h:sceB l=true):snsB (stnL l)=true:=by
 obtain ⟨h16,hb⟩:=sce_iff.1 h
 have hlen:(stnL l).length≤16:=by
  unfold stnL
  rw [List.length_map]
  exact Nat.le_trans (List.length_filter_le _ _) h16
 have pw:l.Pairwise fun x y=>¬ (x.1=y.1∧x.2.1=y.2.1):=by
  rw [List.pairwise_iff_getElem]
  intro i j hi hj hij
  have e:∀ k (hk:k < l.length),l.getD k bdD=l[k]:=fun k hk=>by rw [List.getD_eq_getElem?_getD,List.getElem?_eq_getElem hk]; rfl
  have:=(hb j hj).2.2 i hij
  rwa [e i hi,e j hj] at this
 have pw2:(stnL l).Pairwise fun x y=>¬ (x.1=y.1∧x.2.1=y.2.1):=by
  unfold stnL
  rw [List.pairwise_map]
  exact (pw.filter _).imp fun h=>h
 unfold snsB
 rw [decide_eq_true hlen,Bool.true_and,Bool.not_eq_true',List.any_eq_false]
 intro i hi
 have hi:=List.mem_range.1 hi
 have e:∀ k (hk:k < (stnL l).length),(stnL l).getD k snD=(stnL l)[k]:=fun k hk=>by rw [List.getD_eq_getElem?_getD,List.getElem?_eq_getElem hk]; rfl
 unfold snBad
 simp only [Bool.or_eq_true,Bool.not_eq_true',not_or,Bool.not_eq_false,List.any_eq_true,not_exists,not_and,Bool.not_eq_true]
 constructor
 ·rw [e i hi]
  have hm:(stnL l)[i]∈stnL l:=List.getElem_mem _
  unfold stnL at hm
  obtain ⟨b,hb',eb⟩:=List.mem_map.1 hm
  have hbl:b∈l:=(List.mem_filter.1 hb').1
  have eb':(stnL l)[i]=stOf b:=eb.symm
  rw [eb']
  obtain ⟨c1,c2,c3,c4,_⟩:=bdOk_in (scn_mem h b hbl).1
  unfold snV stOf SnI.x SnI.y
  simp only [Bool.and_eq_true,decide_eq_true_eq]
  refine ⟨⟨?_,?_⟩,⟨?_,?_⟩,⟨?_,?_⟩,?_,?_⟩<;>omega
 ·intro k hk
  have hk:=List.mem_range.1 hk
  rw [e i hi,e k (by omega)]
  have:=(List.pairwise_iff_getElem.1 pw2) k i (by omega) hi hk
  unfold snN
  rw [Bool.and_eq_false_iff,beq_eq_false_iff_ne,beq_eq_false_iff_ne]
  omega
theorem tt_nf {l:List SnI} (h:snsB l=true) {a b:Int} {p:List Int} (hb:(List.range l.length).any (trBad l a b p)=false):NfOk l (trN l a b p l.length):=tr_self h hb ▸ tr_nf h hb
theorem ttM_true {α:Type} {st:List SnI} (h:snsB st=true) (a c:Int) (p:List Int) (k:AOut→Option α):ttM 20 st a c p k=k (b1 true):=by
 unfold ttM snsE
 rw [h,cond_true,show ((0:Int) != 0)=false from rfl,cond_false]
 refine (tr_run h a c p _ _).trans ?_
 cases hb:(List.range st.length).any (trBad st a c p)
 case true=>rfl
 rw [cond_false,if_pos rfl]
 obtain ⟨hE,_⟩:=tr_bds h hb
 obtain ⟨xE,_⟩:=ex_bds h
 have hl:=(snsB_at h).1
 simp only []
 rw [ngG_eq 20 st _ (trN_len ..)]
 refine (nf_run hl (trN_len ..) (tt_nf h hb) _ _).trans ?_
 rw [if_pos rfl]
 unfold ttE
 rw [hE,xE,show ((0:Int)==0)=true from rfl,cond_true,cond_true]
 cases hs:mptB st (trN st a c p st.length)
 ·rfl
 ·obtain ⟨t1,t2⟩:=tr_told h hb hs
  rw [t1,t2,beq_self_eq_true,beq_self_eq_true]
  rfl
theorem sh_err3 {tk:Int→List BdI→Option (List BdI × List HtI)}:∀ (n:Nat) (t:Int) (S:List BdI) (hs:List HtI) {e:Int},shP tk n t S hs=.inl e→e=4∨e=3
 | 0,t,S,hs,e,h=>by cases h
 | n + 1,t,S,hs,e,h=>by
   rw [shP] at h
   cases ha:S.any mvg
   ·rw [ha] at h; cases h
   ·rw [ha,cond_true] at h
    cases hp:tk t S with
    | none=>rw [hp] at h; cases h; exact .inl rfl
    | some p=>
      rw [hp] at h
      simp only at h
      cases hc:decide ((hs++p.2).length≤4096)
      ·rw [hc] at h; cases h; exact .inr rfl
      ·rw [hc] at h; exact sh_err3 n (t + 1) p.1 (hs++p.2) h
theorem ttH_true {α:Type} (cx cy sd w h:Int) (pb po:List Int) (fl ke sw be we:Int) (b:List BrI) (wh el:Int) (l:List BdI) (n a c:Int) (p:List Int) (k:AOut→Option α) :
  ttH 20 (cshB cx cy sd w h pb po fl ke sw be we l b wh el n) (shP (tkV5 cx cy sd w h pb po fl ke sw be we b wh el) n.toNat 0 l []) a c p k=k (b1 true):=by
 cases hc:cshB cx cy sd w h pb po fl ke sw be we l b wh el n
 ·rfl
 cases ho:shP (tkV5 cx cy sd w h pb po fl ke sw be we b wh el) n.toNat 0 l [] with
 | inl e=>
   unfold ttH
   show (bif e != 0 then k (b1 true) else _)=_
   have:(e != 0)=true:=by rcases sh_err3 _ _ _ _ ho with rfl | rfl<;>rfl
   rw [this]; rfl
 | inr q=>
   unfold cshB ctkB at hc
   simp only [Bool.and_eq_true] at hc
   obtain ⟨hic,hg,hs,hb,hw,he,ht⟩:=hc
   obtain ⟨v1,_⟩:=sh_valid cx cy sd w h pb po fl ke sw be we b wh el n.toNat 0 l [] hs ho
   unfold ttH
   show (bif (0:Int) != 0 then _ else bif sceE q.1 != 0 then k (b1 false) else ttM 20 (selX (sceB q.1) (stnL q.1)) a c p k)=_
   unfold sceE selX
   rw [v1]
   exact ttM_true (stn_ok v1) a c p k
theorem ttl_true (cx cy sd w h:Int) (pb po:List Int) (fl ke sw be we:Int) (b:List BrI) (wh el:Int) (l:List BdI) (m a c:Int) (p:List Int):evFn real tab ((twY fsTt spM0).env real tab 20 8) 20 Tryz.f3 AOut [.agg [.int .i64 cx,.int .i64 cy,.int .i64 sd,.int .i64 w,.int .i64 h,.ro (.int .i64) pb,.ro (.int .i64) po,.int .i64 fl,.int .i64 ke,.int .i64 sw,.int .i64 be,.int .i64 we,.ro (.recd (.cons (.int .i64) (.cons (.int .i64) (.cons (.int .i64) .nil)))) b,.int .i64 wh,.int .i64 el],.ro (.recd (.cons (.int .i64) (.cons (.int .i64) (.cons (.recd (.cons (.recd (.cons (.int .i64) (.cons (.int .i64) .nil))) (.cons (.recd (.cons (.int .i64) (.cons (.int .i64) .nil))) (.cons (.int .i64) .nil)))) (.cons .bool .nil))))) l,.int .u8 m,.agg [.int .i64 a,.int .i64 c],.ro (.int .i16) p] some=some (b1 true):=by
 refine (ttl_text 20 0 AOut cx cy sd w h pb po fl ke sw be we b wh el l m a c p some).trans ?_
 cases decide ((pb.length:Int) > 100)
 case true=>rfl
 cases decide ((po.length:Int) > 100)
 case true=>rfl
 cases decide ((b.length:Int) > 66)
 case true=>rfl
 cases decide ((l.length:Int) > 8)
 case true=>rfl
 cases decide ((p.length:Int) > 100)
 case true=>rfl
 exact ttH_true ..
def ttlF:List AVal→Option AOut
 | [.agg [.int .i64 _,.int .i64 _,.int .i64 _,.int .i64 _,.int .i64 _,.ro (.int .i64) _,.ro (.int .i64) _,.int .i64 _,.int .i64 _,.int .i64 _,.int .i64 _,.int .i64 _,.ro (.recd (.cons (.int .i64) (.cons (.int .i64) (.cons (.int .i64) .nil)))) _,.int .i64 _,.int .i64 _],.ro (.recd (.cons (.int .i64) (.cons (.int .i64) (.cons (.recd (.cons (.recd (.cons (.int .i64) (.cons (.int .i64) .nil))) (.cons (.recd (.cons (.int .i64) (.cons (.int .i64) .nil))) (.cons (.int .i64) .nil)))) (.cons .bool .nil))))) _,.int .u8 _,.agg [.int .i64 _,.int .i64 _],.ro (.int .i16) _]=>some (b1 true)
 | _=>none
theorem ttl_ok:FspOk Tryz.prog 3 (toFsp ttlF):=tower_Y fsTt_ok spM0_ok ⟨Tryz.func3,fun _ _=>by kernel_rfl⟩ (toFsp_nat _) fun args out hSm hq=>by
 have h:=toFsp_some hq
 unfold ttlF at h
 split at h
 ·rename_i cx cy sd w h' pb po fl ke sw be we b wh el l m a c p
  exact ⟨20,8,(ttl_true cx cy sd w h' pb po fl ke sw be we b wh el l m a c p).trans h⟩
 ·cases h
end Go.Proofs.YtenolfpkkgcgcaaGreat
namespace Go.Proofs.YtenolfpkkgcgcaaGreat
def spoSh:Sh:=.recd (.cons (.int .i64) (.cons (.int .i64) .nil))
def iceSh:Sh:=.recd (.cons spoSh (.cons (.int .i64) (.cons (.int .i64) (.cons (.int .i64) (.cons (.sl (.int .i64)) (.cons (.sl (.int .i64)) .nil))))))
def graSh:Sh:=.recd (.cons (.int .i64) (.cons (.int .i64) (.cons (.int .i64) (.cons (.int .i64) (.cons (.int .i64) .nil)))))
def movSh:Sh:=.recd (.cons spoSh (.cons spoSh (.cons (.int .i64) .nil)))
def broSh:Sh:=.recd (.cons (.int .i64) (.cons (.int .i64) (.cons (.int .i64) .nil)))
def delSh:Sh:=.recd (.cons iceSh (.cons graSh (.cons (.sl broSh) (.cons (.int .i64) (.cons (.int .i64) .nil)))))
def bdySh:Sh:=.recd (.cons (.int .i64) (.cons (.int .i64) (.cons movSh (.cons .bool .nil))))
end Go.Proofs.YtenolfpkkgcgcaaGreat
