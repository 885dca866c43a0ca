/- Parts of the proof, in build order. -/
import Derived.Test.YtneggblnfobfcaaM9
import Derived.Test.YtneggblnfobfcaaM8
import Derived.Test.YtneggblnfobfcaaM7
import Derived.Test.YtneggblnfobfcaaRows
namespace Go.Proofs.Ytneggblnfobfcaa
open Go.RowKit
theorem aS_any {n:Nat} {l:List (Nat × AVal)} {j:Nat} (hj:j < n) (hl:∀ p∈l,p.1≠j):(aS n l)[j]?=some .any:=by
 have key:∀ (l:List (Nat × AVal)) (ts:List AVal),(∀ p∈l,p.1≠j)→ts[j]?=some .any→(l.foldl (fun t p=>t.set p.1 p.2) ts)[j]?=some .any:=by
  intro l
  induction l with
  | nil=>intro ts _ h; exact h
  | cons p l ih=>
    intro ts hl h
    refine ih _ (fun q hq=>hl q (List.mem_cons_of_mem _ hq)) ?_
    rw [List.getElem?_set_ne (hl p List.mem_cons_self)]
    exact h
 exact key l _ hl (by rw [List.getElem?_replicate,if_pos hj])
theorem fd14_d:fd14.toList.all (fun o=>match o.dst with | none=>true | some t=>decide (41≤t)&&decide (t≤46))=true:=by kernel_rfl
section
variable {w0:World} {ob fb:Nat} {d:Int} {V:Nat→Value} {U:Nat→List Value} {Y:Nat→List (List Int)} {E:List (Nat × Value)} {l:List (Nat × AVal)} {a:Act} {w:World}
theorem fd_r14 (F:FiI w0 ob fb d V U Y E l a w) {t j:Nat} (ht:t < 2) {u:Value} (hu:(U t)[j]?=some u) {x:List Int} (hx:(Y t)[j]?=some x) (h10:(10,u)∈E) {n:Int} (h11:(aS 53 l).getD 11 .any=.int .i64 n) (hn:0≤n∧n < (x.length:Int))
  (hl:∀ p∈l,p.1 < 41∨46 < p.1) (hE:∀ p∈E,p.1 < 41∨46 < p.1) {Q:Exit→Act→World→Prop}
  (next:∀ a' w',FiI w0 ob fb d V U (up Y t ((Y t).set j (x.set n.toNat (IntKind.i64.wrap (x.getD n.toNat 0 + 1))))) E l a' w'→Q .normal a' w'):WpR Try.prog (.region 14 fd14 false) Q a w:=by
 have hsz:=F.size
 obtain ⟨g,q1,q2,tr⟩:=F.ex
 have C:=F.cp
 obtain ⟨hrow,hx0⟩:=C.inn t j u x ht hu hx
 obtain ⟨bu,cap,rfl⟩:∃ bu cap,u=.slice (some ⟨bu,0,none⟩) x.length cap:=by
  rcases hrow.2 with ⟨_,h0⟩ | ⟨g,cap,cur,h1,_⟩
  ·omega
  ·exact ⟨g,cap,h1⟩
 have hbu:cpBlk ob fb V U (2 + t) j=some bu:=by rw [cpBlk_u ht,hu]; rfl
 have e10:a.tmps.getD 10 Go.undef=.slice (some ⟨bu,0,none⟩) x.length cap:=F.es _ h10
 let K:Nat→Prop:=fun b=>b < w.heap.size∧b≠bu
 let g1:Gh:=⟨fun _=>.slice (some ⟨bu,0,none⟩) x.length cap,g.M⟩
 have only:∀ (i:Nat) (b:ABlk),([.row true fI (.int .i64) x]:List ABlk)[i]?=some b→i=0∧b=.row true fI (.int .i64) x:=fun i b h=>by
  cases i with
  | zero=>simpa using h.symm
  | succ i=>simp at h
 have only0:∀ i:Nat,alive [.row true fI (.int .i64) x] i→i=0:=fun i ⟨b,hb,_⟩=>(only i b hb).1
 have st:St K [.row true fI (.int .i64) x] g1 w:=by
  refine ⟨fun i b hb=>?_,fun i k b hi hk _ _=>by rw [only0 i hi,only0 k hk],fun i b hi hb=>?_,q1,fun b hb=>hb.1⟩
  ·rw [(only i b hb).2]
   refine (rowOk_iff (h:=[.row true fI (.int .i64) x]) (g:=g1) (w:=w) (v:=.slice (some ⟨bu,0,none⟩) x.length cap) (t:=fI) (e:=.int .i64) (xs:=x) (by decide)).2 ⟨_,hrow,fun m (z:Int) jj c hz hc=>?_⟩
   match jj,hc with
   | 0,hc=>
     cases hc
     refine ⟨.int .i64 z,?_,.int .i64 z⟩
     show (x.map (Value.int .i64))[m * 1 + 0]?=_
     rw [Nat.mul_one,Nat.add_zero,List.getElem?_map]
     exact congrArg (Option.map (Value.int .i64)) hz
  ·have:b=bu:=by
    have h:some bu=some b:=hb
    cases h; rfl
   subst this
   exact ⟨fun h=>h.2 rfl,fun h=>q2 b h (2 + t) j hbu,(C.lo (2 + t) j b hbu).2⟩
 have tr1:TRep [.row true fI (.int .i64) x] g1 w (aS 53 [(10,.own 0),(11,.int .i64 n)]) a.tmps:=trep_aS hsz (by
  simp only [List.forall_mem_cons]
  refine ⟨?_,?_,fun p hp=>by cases hp⟩
  ·rw [e10]
   exact .own 0 _ (Here.of rfl (by simp)) rfl fun _ _ _ _ _=>rfl
  ·have h:=tr.get 11
   rw [h11] at h
   rw [rep_int h]
   exact .int .i64 n)
 have hd:fd14.toList.all (fun o=>(l.map (·.1)++E.map (·.1)).all fun t=>o.dst != some t)=true:=by
  refine List.all_eq_true.2 fun o ho=>List.all_eq_true.2 fun s hs=>?_
  have h1:=List.all_eq_true.1 fd14_d o ho
  have h2:s < 41∨46 < s:=by
   rcases List.mem_append.1 hs with h | h
   ·obtain ⟨p,hp,rfl⟩:=List.mem_map.1 h
    exact hl p hp
   ·obtain ⟨p,hp,rfl⟩:=List.mem_map.1 h
    exact hE p hp
  cases hdst:o.dst with
  | none=>rfl
  | some q=>
    rw [hdst] at h1
    replace h1:(decide (41≤q)&&decide (q≤46))=true:=h1
    rw [Bool.and_eq_true,decide_eq_true_eq,decide_eq_true_eq] at h1
    rw [bne_iff_ne]
    intro e
    have e':q=s:=by simpa using e
    rw [e'] at h1
    have h3:(41:Nat)≤s:=h1.1
    have h4:s≤(46:Nat):=h1.2
    omega
 refine pc (K:=K) (g:=g1) tabOk fE_ok ((fd_p14 n x).trans ((if_pos hn).trans (if_pos hn))) hd st tr1 fun a' w' g' st' le tr' df ks=>next a' w' ?_
 generalize hy:x.set n.toNat (IntKind.i64.wrap (x.getD n.toNat 0 + 1))=y at *
 have hyl:y.length=x.length:=by rw [← hy,List.length_set]
 have hρ:g'.ρ 0=.slice (some ⟨bu,0,none⟩) x.length cap:=by
  obtain ⟨_,_,_,_,e⟩:=le.row 0 true fI (.int .i64) y (Here.of rfl (by simp)) rfl
  exact e
 obtain ⟨vs,hv1,hv2⟩:=(rowOk_iff (e:=.int .i64) (by decide)).1 (st'.blk 0 _ rfl)
 rw [hρ] at hv1
 have hvs:vs=y.map (Value.int .i64):=by
  refine List.ext_getElem? fun m=>?_
  rw [List.getElem?_map]
  have hvl:vs.length=y.length:=by rw [hv1.1]; exact Nat.mul_one _
  cases hm:y[m]? with
  | none=>rw [List.getElem?_eq_none_iff] at hm; rw [List.getElem?_eq_none (by omega)]; rfl
  | some z=>
    obtain ⟨q,h1,h2⟩:=hv2 m z 0 (.int .i64 z) hm rfl
    have e1:m * Sh.size (.int .i64) + 0=m:=Nat.mul_one m
    rw [e1] at h1
    rw [h1,rep_int h2]; rfl
 subst hvs
 have hb:∀ b,b < w.heap.size→(Value.slice (some ⟨bu,0,none⟩) x.length cap).ownBlock≠some b→w'.heap[b]?=w.heap[b]?:=fun b h1 h2=>le.k b ⟨h1,fun e=>h2 (by rw [e]; rfl)⟩
 have same:∀ b,g.M b→w'.heap[b]?=w.heap[b]?:=fun b h=>hb b (q1 b h) fun e=>by
  have:bu=b:=by simpa [Value.ownBlock] using e
  exact q2 b h (2 + t) j (this ▸ hbu)
 have lm:=le_stay same le.os le.tape le.output le.size
 have kk:∀ s,s∈l.map (·.1)++E.map (·.1)→a'.tmps.getD s Go.undef=a.tmps.getD s Go.undef:=ks
 have hsz':a'.tmps.size=53:=by rw [← tr'.1,aS_len]
 refine ⟨⟨g,fun b h=>Nat.lt_of_lt_of_le (q1 b h) le.size,q2,⟨by rw [aS_len,hsz'],fun q c z hc hz=>?_⟩⟩,C.write ht hu hx hyl hv1 hb le.os le.tape le.output le.size,fun p hp=>(kk p.1 (List.mem_append_right _ (List.mem_map.2 ⟨p,hp,rfl⟩))).trans (F.es p hp),df.trans F.df⟩
 by_cases hq:∃ p∈l,p.1=q
 ·obtain ⟨p,hp,rfl⟩:=hq
  have h1:=(tr.get p.1).mono lm
  rw [← kk p.1 (List.mem_append_left _ (List.mem_map.2 ⟨p,hp,rfl⟩))] at h1
  have h2:(aS 53 l).getD p.1 .any=c:=by rw [List.getD_eq_getElem?_getD,hc]; rfl
  have h3:a'.tmps.getD p.1 Go.undef=z:=by rw [Array.getD_eq_getD_getElem?,hz]; rfl
  rw [h2,h3] at h1
  exact h1
 ·have hlt:q < 53:=by
   have:=(Array.getElem?_eq_some_iff.1 hz).1
   omega
  rw [aS_any hlt fun p hp e=>hq ⟨p,hp,e⟩] at hc
  cases hc
  exact .any z
end
/-! The rows' numbers. -/
theorem flC_snoc (o:List Int):∀ (k i:Nat) (c:List Int),flC o (k + 1) i c=(flC o k i c).set (flN o (i + k)) ((flC o k i c).getD (flN o (i + k)) 0 + 1)
 | 0,i,c=>rfl
 | k + 1,i,c=>by
   rw [flC,flC_snoc o k (i + 1),flC,show i + 1 + k=i + (k + 1) by omega]
def bdL (m:Int) (c:List Int):Prop:=∀ x∈c,-1000000000≤x∧x≤m
theorem bd_get {m:Int} {c:List Int} (h:bdL m c) (hm:0≤m) (n:Nat):-1000000000≤c.getD n 0∧c.getD n 0≤m:=by
 rw [List.getD_eq_getElem?_getD]
 cases e:c[n]? with
 | none=>exact ⟨by decide,hm⟩
 | some x=>exact h x (List.mem_of_getElem? e)
theorem flC_bd (o:List Int):∀ (k i:Nat) (c:List Int) (m:Int),0≤m→bdL m c→bdL (m + k) (flC o k i c)
 | 0,i,c,m,_,h=>fun x hx=>by have:=h x hx; omega
 | k + 1,i,c,m,hm,h=>by
   rw [flC]
   have:=flC_bd o k (i + 1) (c.set (flN o i) (c.getD (flN o i) 0 + 1)) (m + 1) (by omega) fun x hx=>by
    rcases List.mem_or_eq_of_mem_set hx with h' | rfl
    ·have:=h x h'; omega
    ·have:=bd_get h hm (flN o i); omega
   intro x hx
   have:=this x hx
   omega
theorem u8N_eq {o:List Int} (hU:∀ x∈o,0≤x∧x≤255) (h0:0 < o.length) (i:Nat):u8N o (i:Int)=(flN o i:Int):=by
 have hi:((i:Int).tmod (o.length:Int)).toNat=i % o.length:=by
  rw [Int.tmod_eq_emod_of_nonneg (by omega)]
  have:((i:Int) % (o.length:Int))=((i % o.length:Nat):Int):=rfl
  rw [this,Int.toNat_natCast]
 unfold u8N flN
 rw [hi,if_neg (by omega)]
 have hlt:i % o.length < o.length:=Nat.mod_lt _ h0
 have hm:o.getD (i % o.length) 0∈o:=by
  rw [List.getD_eq_getElem?_getD,List.getElem?_eq_getElem hlt]; exact List.getElem_mem _
 have hr:=hU _ hm
 generalize o.getD (i % o.length) 0=x at hr
 have hw:IntKind.i64.wrap x=x:=by rw [IntKind.wrap_i64]; omega
 rw [hw,Int.tmod_eq_emod_of_nonneg hr.1]
 omega
def kMu (n:Nat) (a:Act):Nat:=match a.tmps.getD 27 Go.undef with
 | .int _ j=>(n - j).toNat
 | _=>0
theorem up_id {α:Type} (f:Nat→α) (t:Nat):up f t (f t)=f:=by
 funext s
 unfold up
 split
 ·rename_i e; rw [e]
 ·rfl
theorem set_self {x:List (List Int)} {j:Nat} {c:List Int} (h:x[j]?=some c):x.set j c=x:=by
 refine List.ext_getElem? fun k=>?_
 rw [List.getElem?_set]
 by_cases e:j=k
 ·subst e
  rw [if_pos rfl,if_pos (List.getElem?_eq_some_iff.1 h).1,h]
 ·rw [if_neg e]
theorem eE_dd {ob fb:Nat} {V:Nat→Value} {r:List (Nat × Value)} (hr:∀ p∈r,p.1 < 26∧p.1≠11∧p.1≠6) (ops:Array Oper) (D:List Nat) (h1:ops.toList.all (fun o=>match o.dst with | none=>true | some t=>D.contains t)=true) (h2:∀ t∈D,t=6∨t=11∨26≤t) :
  ops.toList.all (fun o=>((eE ob fb V r).map (·.1)).all fun t=>o.dst != some t)=true:=by
 refine List.all_eq_true.2 fun p hp=>List.all_eq_true.2 fun s hs=>?_
 have h3:=List.all_eq_true.1 h1 p hp
 have h4:s=4∨s=5∨s=15∨(s < 26∧s≠11∧s≠6):=by
  obtain ⟨e,he,rfl⟩:=List.mem_map.1 hs
  rcases List.mem_cons.1 he with rfl | he
  ·exact .inl rfl
  rcases List.mem_cons.1 he with rfl | he
  ·exact .inr (.inl rfl)
  rcases List.mem_cons.1 he with rfl | he
  ·exact .inr (.inr (.inl rfl))
  ·exact .inr (.inr (.inr (hr e he)))
 cases hdst:p.dst with
 | none=>rfl
 | some z=>
   rw [hdst] at h3
   replace h3:D.contains z=true:=h3
   rw [bne_iff_ne]
   intro e
   have e':z=s:=by simpa using e
   rw [e'] at h3
   have h5:=h2 s (List.contains_iff_mem.1 h3)
   rcases h4 with h4 | h4 | h4 | ⟨h4,h4b,h4c⟩<;>rcases h5 with h5 | h5 | h5
   ·exact absurd (h4.symm.trans h5) (by decide)
   ·exact absurd (h4.symm.trans h5) (by decide)
   ·rw [h4] at h5; exact absurd h5 (by decide)
   ·exact absurd (h4.symm.trans h5) (by decide)
   ·exact absurd (h4.symm.trans h5) (by decide)
   ·rw [h4] at h5; exact absurd h5 (by decide)
   ·exact absurd (h4.symm.trans h5) (by decide)
   ·exact absurd (h4.symm.trans h5) (by decide)
   ·rw [h4] at h5; exact absurd h5 (by decide)
   ·exact h4c h5
   ·exact h4b h5
   ·exact Nat.not_le_of_lt h4 h5
theorem eE_41 {ob fb:Nat} {V:Nat→Value} {r:List (Nat × Value)} (hr:∀ p∈r,p.1 < 26∧p.1≠11∧p.1≠6):∀ p∈eE ob fb V r,p.1 < 41∨46 < p.1:=fun p hp=>by
 rcases List.mem_cons.1 hp with rfl | hp
 ·exact .inl (show (4:Nat) < 41 by decide)
 rcases List.mem_cons.1 hp with rfl | hp
 ·exact .inl (show (5:Nat) < 41 by decide)
 rcases List.mem_cons.1 hp with rfl | hp
 ·exact .inl (show (15:Nat) < 41 by decide)
 ·have:=(hr p hp).1; omega
section
variable {w0:World} {ob fb:Nat} {d:Nat} {V:Nat→Value} {U:Nat→List Value} {Y:Nat→List (List Int)} {r:List (Nat × Value)} {o:List Int} {A B:List (List Int)} (hr:∀ p∈r,p.1 < 26∧p.1≠11∧p.1≠6)
include hr
theorem fd_num (hU:∀ x∈o,0≤x∧x≤255) {i:Nat} {t n q k:Int} {a:Act} {w:World} (F:FiI w0 ob fb (d:Int) V U Y (eE ob fb V r) (lF o d A B (i:Int) (lK t n q (lJ d k [(11,.int .i64 9)]))) a w) {Q:Exit→Act→World→Prop}
  (next:∀ a' w',FiI w0 ob fb (d:Int) V U Y (eE ob fb V r) (lF o d A B (i:Int) (lK t n q (lJ d k [(11,.int .i64 (flN o i:Int))]))) a' w'→Q .normal a' w'):WpR Try.prog (.seq (.region 12 fd12 false) (.cond (.tmp 31) (.region 13 fd13 false) .skip)) Q a w:=by
 refine wpR_seq (F.piece (fd_p12 o d A B _ t n q k) (eE_dd hr fd12 [29,30,31] (by kernel_rfl) (by decide)) fun a1 w1 F1=>?_)
 have hbl:=F1.bool (t:=31) (b:=decide ((o.length:Int) > 0)) (by kernel_rfl)
 rcases Nat.eq_zero_or_pos o.length with h0 | h0
 ·rw [decide_eq_false (show ¬ (o.length:Int) > 0 by omega)] at hbl
  refine wpR_cond (t:=false) hbl (wpR_skip (next _ _ (F1.weak (fun p hp=>hp) ?_)))
  have e:(flN o i:Int)=9:=by unfold flN; rw [if_pos h0]; rfl
  rw [e]
  simp only [lF,lK,lJ,List.forall_mem_cons]
  exact ⟨by kernel_rfl,by kernel_rfl,by kernel_rfl,by kernel_rfl,by kernel_rfl,by kernel_rfl,by kernel_rfl,by kernel_rfl,by kernel_rfl,fun p hp=>by cases hp⟩
 ·rw [decide_eq_true (show (o.length:Int) > 0 by omega)] at hbl
  have F2:=F1.weak (E':=eE ob fb V r) (l':=lF o d A B (i:Int) (lK t n q (lJ d k []))) (fun p hp=>hp) (by
   simp only [lF,lK,lJ,List.forall_mem_cons]
   exact ⟨by kernel_rfl,by kernel_rfl,by kernel_rfl,by kernel_rfl,by kernel_rfl,by kernel_rfl,by kernel_rfl,by kernel_rfl,fun p hp=>by cases hp⟩)
  have hm:0≤(i:Int).tmod (o.length:Int)∧(i:Int).tmod (o.length:Int) < (o.length:Int):=⟨Int.tmod_nonneg _ (by omega),Int.tmod_lt_of_pos _ (by omega)⟩
  refine wpR_cond (t:=true) hbl (F2.piece ((fd_p13 o d A B _ t n q k).trans ((if_neg (by omega)).trans (if_pos hm))) (eE_dd hr fd13 [32,33,34,35,36,37,38,39,40,11] (by kernel_rfl) (by decide)) fun a2 w2 F3=>next _ _ (F3.weak (fun p hp=>hp) ?_))
  rw [u8N_eq hU h0]
  simp only [lF,lK,lJ,List.forall_mem_cons]
  exact ⟨by kernel_rfl,by kernel_rfl,by kernel_rfl,by kernel_rfl,by kernel_rfl,by kernel_rfl,by kernel_rfl,by kernel_rfl,by kernel_rfl,fun p hp=>by cases hp⟩
theorem fd_tail {t j:Nat} (ht:t < 2) {i:Nat} (hi:i < 10000000) {n q k:Int} {u:Value} (hu:(U t)[j]?=some u) {x:List Int} (hx:(Y t)[j]?=some x) (h17:x.length=17) (hb:bdL 1000000000 x) (h10:(10,u)∈eE ob fb V r) {t':Int} {a:Act} {w:World}
  (F:FiI w0 ob fb (d:Int) V U Y (eE ob fb V r) (lF o d A B (i:Int) (lK t' n q (lJ d k [(11,.int .i64 (flN o i:Int))]))) a w) {Q:Exit→Act→World→Prop}
  (next:∀ a' w',FiI w0 ob fb (d:Int) V U (up Y t ((Y t).set j (x.set (flN o i) (x.getD (flN o i) 0 + 1)))) (eE ob fb V r) (lF o d A B ((i + 1:Nat):Int) (lK t' n q (lJ d k []))) a' w'→Q .normal a' w'):WpR Try.prog (.seq (.region 14 fd14 false) (.region 15 fd15 false)) Q a w:=by
 have hn:=flN_lt o i
 refine wpR_seq (fd_r14 F ht hu hx h10 (n:=(flN o i:Int)) (by kernel_rfl) ⟨by omega,by omega⟩ (by
  simp only [lF,lK,lJ,List.forall_mem_cons]
  exact ⟨by decide,by decide,by decide,by decide,by decide,by decide,by decide,by decide,by decide,fun p hp=>by cases hp⟩) (eE_41 hr) fun a1 w1 F1=>?_)
 have hw:IntKind.i64.wrap (x.getD (flN o i) 0 + 1)=x.getD (flN o i) 0 + 1:=by
  have:=bd_get hb (by decide) (flN o i)
  rw [IntKind.wrap_i64]; omega
 rw [Int.toNat_natCast,hw] at F1
 have F2:=F1.weak (E':=eE ob fb V r) (l':=lF o d A B (i:Int) (lK t' n q (lJ d k []))) (fun p hp=>hp) (by
  simp only [lF,lK,lJ,List.forall_mem_cons]
  exact ⟨by kernel_rfl,by kernel_rfl,by kernel_rfl,by kernel_rfl,by kernel_rfl,by kernel_rfl,by kernel_rfl,by kernel_rfl,fun p hp=>by cases hp⟩)
 refine F2.piece (fd_p15 o d A B _ t' n q k) (eE_dd hr fd15 [47,48,6] (by kernel_rfl) (by decide)) fun a2 w2 F3=>next _ _ (F3.weak (fun p hp=>hp) ?_)
 have ew:IntKind.i64.wrap ((i:Int) + 1)=((i + 1:Nat):Int):=by rw [IntKind.wrap_i64]; omega
 rw [ew]
 simp only [lF,lK,lJ,List.forall_mem_cons]
 exact ⟨by kernel_rfl,by kernel_rfl,by kernel_rfl,by kernel_rfl,by kernel_rfl,by kernel_rfl,by kernel_rfl,by kernel_rfl,fun p hp=>by cases hp⟩
theorem fd_loop3 (hU:∀ x∈o,0≤x∧x≤255) (hd:d≤1000) {t j:Nat} (ht:t < 2) {i:Nat} (hi:i≤1000000) {t' n q:Int} {u:Value} (hu:(U t)[j]?=some u) {c:List Int} (hc:(Y t)[j]?=some c) (h17:c.length=17) (hb:bdL 1000000 c) (h10:(10,u)∈eE ob fb V r)
  {a:Act} {w:World} (F:FiI w0 ob fb (d:Int) V U Y (eE ob fb V r) (lF o d A B (i:Int) (lK t' n q (lJ d 0 []))) a w) :
  WpR Try.prog (.loop fdL3) (fun e a' w'=>e=.exit 4∧FiI w0 ob fb (d:Int) V U (up Y t ((Y t).set j (flC o d i c))) (eE ob fb V r) (lF o d A B ((i + d:Nat):Int) (lK t' n q (lJ d d []))) a' w') a w:=by
 refine wpR_loop (fun a w=>∃ k:Nat,k≤d∧FiI w0 ob fb (d:Int) V U (up Y t ((Y t).set j (flC o k i c))) (eE ob fb V r) (lF o d A B ((i + k:Nat):Int) (lK t' n q (lJ d k []))) a w) (fun a _=>kMu d a) ⟨0,Nat.zero_le _,by rw [flC,set_self hc,up_id]; exact F⟩ fun a w hI=>?_
 obtain ⟨k,hk,F⟩:=hI
 have mu:kMu d a=d - k:=by
  unfold kMu
  rw [F.int (t:=27) (n:=(k:Int)) (by kernel_rfl)]
  show ((d:Int) - (k:Int)).toNat=_
  omega
 rw [fdL3_eq]
 refine wpR_seq (F.piece (fd_p10 o d A B _ t' n q k) (eE_dd hr fd10 [28] (by kernel_rfl) (by decide)) fun a1 w1 F1=>?_)
 have hbl:=F1.bool (t:=28) (b:=decide ((k:Int) < (d:Int))) (by kernel_rfl)
 have F2:=F1.weak (E':=eE ob fb V r) (l':=lF o d A B ((i + k:Nat):Int) (lK t' n q (lJ d k []))) (fun p hp=>hp) (by
  simp only [lF,lK,lJ,List.forall_mem_cons]
  exact ⟨by kernel_rfl,by kernel_rfl,by kernel_rfl,by kernel_rfl,by kernel_rfl,by kernel_rfl,by kernel_rfl,by kernel_rfl,fun p hp=>by cases hp⟩)
 rcases Nat.lt_or_ge k d with hlt | hge
 ·rw [decide_eq_true (show (k:Int) < (d:Int) by omega)] at hbl
  refine wpR_seq (wpR_cond (t:=true) hbl (wpR_skip ?_))
  refine wpR_seq (wpR_block (wpR_seq (F2.piece (fd_p11 o d A B _ t' n q k) (eE_dd hr fd11 [11] (by kernel_rfl) (by decide)) fun a2 w2 F3=>?_)))
  have F3':=F3.weak (E':=eE ob fb V r) (l':=lF o d A B ((i + k:Nat):Int) (lK t' n q (lJ d k [(11,.int .i64 9)]))) (fun p hp=>hp) (by
   simp only [lF,lK,lJ,List.forall_mem_cons]
   exact ⟨by kernel_rfl,by kernel_rfl,by kernel_rfl,by kernel_rfl,by kernel_rfl,by kernel_rfl,by kernel_rfl,by kernel_rfl,by kernel_rfl,fun p hp=>by cases hp⟩)
  refine wpR_seq (fd_num hr hU F3' fun a3 w3 F4=>?_)
  have hjlt:j < (Y t).length:=(List.getElem?_eq_some_iff.1 hc).1
  refine fd_tail hr ht (by omega) hu (x:=flC o k i c) (by rw [up_same,List.getElem?_set,if_pos rfl,if_pos hjlt]) (by rw [flC_len,h17]) (fun x hx=>by
   have:=flC_bd o k i c 1000000 (by decide) hb x hx
   omega) h10 F4 fun a4 w4 F5=>?_
  rw [up_up,up_same,List.set_set,← flC_snoc] at F5
  refine F5.piece (fd_p16 o d A B _ t' n q k) (eE_dd hr fd16 [49,27] (by kernel_rfl) (by decide)) fun a5 w5 F6=>?_
  have ew:IntKind.i64.wrap ((k:Int) + 1)=((k + 1:Nat):Int):=by rw [IntKind.wrap_i64]; omega
  rw [ew] at F6
  have F7:=F6.weak (E':=eE ob fb V r) (l':=lF o d A B ((i + (k + 1):Nat):Int) (lK t' n q (lJ d ((k + 1:Nat):Int) []))) (fun p hp=>hp) (by
   simp only [lF,lK,lJ,List.forall_mem_cons]
   exact ⟨by kernel_rfl,by kernel_rfl,by kernel_rfl,by kernel_rfl,by kernel_rfl,by kernel_rfl,by kernel_rfl,by kernel_rfl,fun p hp=>by cases hp⟩)
  refine ⟨⟨k + 1,hlt,F7⟩,?_⟩
  have mu5:kMu d a5=d - (k + 1):=by
   unfold kMu
   rw [F7.int (t:=27) (n:=((k + 1:Nat):Int)) (by kernel_rfl)]
   show ((d:Int) - ((k + 1:Nat):Int)).toNat=_
   omega
  rw [mu,mu5]
  omega
 ·rw [decide_eq_false (show ¬ (k:Int) < (d:Int) by omega)] at hbl
  refine wpR_seq (wpR_cond (t:=false) hbl (wpR_exit ⟨rfl,?_⟩))
  have:k=d:=by omega
  subst this
  exact F2
end
/-! Rows filled so far. -/
theorem flL_app (o:List Int) (d:Nat):∀ (i:Nat) (A B:List (List Int)),flL o d i (A++B)=flL o d i A++flL o d (i + d * A.length) B
 | i,[],B=>by rw [List.nil_append,flL,List.nil_append,List.length_nil,Nat.mul_zero,Nat.add_zero]
 | i,c :: A,B=>by rw [List.cons_append,flL,flL,flL_app o d,List.cons_append,List.length_cons,Nat.mul_succ,show i + d + d * A.length=i + (d * A.length + d) by omega]
def flT (o:List Int) (d i j:Nat) (L:List (List Int)):List (List Int):=flL o d i (L.take j)++L.drop j
theorem flT_zero (o:List Int) (d i:Nat) (L:List (List Int)):flT o d i 0 L=L:=by
 unfold flT
 rw [List.take_zero,List.drop_zero,flL,List.nil_append]
theorem flT_all (o:List Int) (d i:Nat) (L:List (List Int)):flT o d i L.length L=flL o d i L:=by
 unfold flT
 rw [List.take_length,List.drop_length,List.append_nil]
theorem flT_get (o:List Int) (d i:Nat) {j:Nat} {L:List (List Int)} (hj:j < L.length):(flT o d i j L)[j]?=some (L.getD j []):=by
 unfold flT
 rw [List.getElem?_append_right (by rw [flL_len,List.length_take]; omega),flL_len,List.length_take,Nat.min_eq_left (by omega),Nat.sub_self,List.getElem?_drop,Nat.add_zero,List.getD_eq_getElem?_getD,List.getElem?_eq_getElem hj]; rfl
theorem flT_step (o:List Int) (d i:Nat) {j:Nat} {L:List (List Int)} (hj:j < L.length):(flT o d i j L).set j (flC o d (i + d * j) (L.getD j []))=flT o d i (j + 1) L:=by
 unfold flT
 have hl:(flL o d i (L.take j)).length=j:=by rw [flL_len,List.length_take]; omega
 have hd:L.drop j=L.getD j [] :: L.drop (j + 1):=by
  rw [List.getD_eq_getElem?_getD,List.getElem?_eq_getElem hj]
  exact List.drop_eq_getElem_cons hj
 rw [List.set_append_right _ _ (by omega),hl,Nat.sub_self,hd,List.set_cons_zero,← take_more hj,flL_app,List.length_take,Nat.min_eq_left (by omega),List.append_assoc]
 rfl
def LsOk2 (L:List (List Int)):Prop:=L.length≤8∧∀ x∈L,x.length=17∧bdL 1000000 x
section
variable (o:List Int) (d:Int) (A B:List (List Int)) (i t n j k:Int)
theorem fd_p7:evOps real tab fE false fd7 fd7.toList ⟨aS 53 (lF o d A B i (lK t n j [])),[]⟩ pairE=some (.normal,⟨aS 53 (lF o d A B i (lK t n j [(22,.bool (decide (j < n)))])),[]⟩):=by kernel_rfl
theorem fd_p9:evOps real tab fE false fd9 fd9.toList ⟨aS 53 (lF o d A B i (lK t n j [])),[]⟩ pairE=some (.normal,⟨aS 53 (lF o d A B i (lK t n j [(25,fRp d A B),(26,.int .i64 d),(27,.int .i64 0)])),[]⟩):=by kernel_rfl
theorem fd_p17:evOps real tab fE false fd17 fd17.toList ⟨aS 53 (lF o d A B i (lK t n j [])),[]⟩ pairE=some (.normal,⟨aS 53 (lF o d A B i (lK t n (IntKind.i64.wrap (j + 1)) [(50,.int .i64 (IntKind.i64.wrap (j + 1)))])),[]⟩):=by kernel_rfl
theorem fd_p4:evOps real tab fE false fd4 fd4.toList ⟨aS 53 (lF o d A B i [(16,.int .i64 t)]),[]⟩ pairE=some (.normal,⟨aS 53 (lF o d A B i [(16,.int .i64 t),(17,.bool (decide (t < 2)))]),[]⟩):=by kernel_rfl
theorem fd_p18:evOps real tab fE false fd18 fd18.toList ⟨aS 53 (lF o d A B i [(16,.int .i64 t)]),[]⟩ pairE=some (.normal,⟨aS 53 (lF o d A B i [(16,.int .i64 (IntKind.i64.wrap (t + 1))),(51,.int .i64 (IntKind.i64.wrap (t + 1)))]),[]⟩):=by kernel_rfl
end
theorem fd_d7 (ob fb:Nat) (V:Nat→Value) (v:Value):fd7.toList.all (fun o=>((eE ob fb V [(19,v)]).map (·.1)).all fun t=>o.dst != some t)=true:=by kernel_rfl
theorem fd_d9 (ob fb:Nat) (V:Nat→Value) (u v:Value):fd9.toList.all (fun o=>((eE ob fb V [(10,u),(19,v)]).map (·.1)).all fun t=>o.dst != some t)=true:=by kernel_rfl
theorem fd_d17 (ob fb:Nat) (V:Nat→Value) (v:Value):fd17.toList.all (fun o=>((eE ob fb V [(19,v)]).map (·.1)).all fun t=>o.dst != some t)=true:=by kernel_rfl
theorem fd_d4 (ob fb:Nat) (V:Nat→Value):fd4.toList.all (fun o=>((eE ob fb V []).map (·.1)).all fun t=>o.dst != some t)=true:=by kernel_rfl
theorem fd_d18 (ob fb:Nat) (V:Nat→Value):fd18.toList.all (fun o=>((eE ob fb V []).map (·.1)).all fun t=>o.dst != some t)=true:=by kernel_rfl
theorem fd8_0:fd8[0]?=some (fcOp fd8 0)∧(fcOp fd8 0).guard=none∧(fcOp fd8 0).dst=some 23∧(fcOp fd8 0).op=.indexAddr fQ (.tmp 19) (.tmp 21):=⟨by kernel_rfl,by kernel_rfl,by kernel_rfl,by kernel_rfl⟩
theorem fd8_1:fd8[1]?=some (fcOp fd8 1)∧(fcOp fd8 1).guard=none∧(fcOp fd8 1).dst=some 24∧(fcOp fd8 1).op=.load fR (.tmp 23):=⟨by kernel_rfl,by kernel_rfl,by kernel_rfl,by kernel_rfl⟩
theorem fd8_2:fd8[2]?=some (fcOp fd8 2)∧(fcOp fd8 2).guard=none∧(fcOp fd8 2).dst=some 10∧(fcOp fd8 2).op=.assign (.tmp 24):=⟨by kernel_rfl,by kernel_rfl,by kernel_rfl,by kernel_rfl⟩
theorem fd8_size:fd8.size=3:=by kernel_rfl
theorem fd5_0:fd5[0]?=some (fcOp fd5 0)∧(fcOp fd5 0).guard=none∧(fcOp fd5 0).dst=some 18∧(fcOp fd5 0).op=.index fA2 (.tmp 15) (.tmp 16):=⟨by kernel_rfl,by kernel_rfl,by kernel_rfl,by kernel_rfl⟩
theorem fd5_1:fd5[1]?=some (fcOp fd5 1)∧(fcOp fd5 1).guard=none∧(fcOp fd5 1).dst=some 8∧(fcOp fd5 1).op=.assign (.tmp 18):=⟨by kernel_rfl,by kernel_rfl,by kernel_rfl,by kernel_rfl⟩
theorem fd5_size:fd5.size=2:=by kernel_rfl
theorem fd6_0:fd6[0]?=some (fcOp fd6 0)∧(fcOp fd6 0).guard=none∧(fcOp fd6 0).dst=some 19∧(fcOp fd6 0).op=.move (.tmp 8):=⟨by kernel_rfl,by kernel_rfl,by kernel_rfl,by kernel_rfl⟩
theorem fd6_1:fd6[1]?=some (fcOp fd6 1)∧(fcOp fd6 1).guard=none∧(fcOp fd6 1).dst=some 20∧(fcOp fd6 1).op=.call { callee:=.builtin .len,args:=#[.tmp 19],argTypes:=#[fQ] }:=⟨by kernel_rfl,by kernel_rfl,by kernel_rfl,by kernel_rfl⟩
theorem fd6_2:fd6[2]?=some (fcOp fd6 2)∧(fcOp fd6 2).guard=none∧(fcOp fd6 2).dst=some 21∧(fcOp fd6 2).op=.move (.const (.int .i64 0)):=⟨by kernel_rfl,by kernel_rfl,by kernel_rfl,by kernel_rfl⟩
theorem fd6_size:fd6.size=3:=by kernel_rfl
section
variable {w0:World} {ob fb:Nat} {d:Nat} {V:Nat→Value} {U:Nat→List Value} {Y:Nat→List (List Int)} {o:List Int} {A B:List (List Int)}
theorem fd_r8 {t j:Nat} (ht:t < 2) {i:Nat} {n:Nat} (hn:n=(U t).length) (hj:j < n) {u:Value} (hu:(U t)[j]?=some u) {a:Act} {w:World} (F:FiI w0 ob fb (d:Int) V U Y (eE ob fb V [(19,V t)]) (lF o d A B (i:Int) (lK t n j [])) a w) {Q:Exit→Act→World→Prop}
  (next:∀ a' w',FiI w0 ob fb (d:Int) V U Y (eE ob fb V [(10,u),(19,V t)]) (lF o d A B (i:Int) (lK t n j [])) a' w'→Q .normal a' w'):WpR Try.prog (.region 8 fd8 false) Q a w:=by
 have hrow:=F.cp.row t ht
 obtain ⟨g,cap,hv⟩:∃ g cap,V t=.slice (some ⟨g,0,none⟩) (U t).length cap:=by
  rcases hrow.2 with ⟨_,h0⟩ | ⟨g,cap,cur,h1,_⟩
  ·omega
  ·exact ⟨g,cap,h1⟩
 have hcell:w.cell? ⟨g,j,none⟩=some u:=by
  have:=hrow.cells (g:=g) (by rw [hv]; rfl) j u hu
  rw [Addr.add_lit,Nat.zero_add] at this
  exact this
 have e19:a.eval (.tmp 19)=.slice (some ⟨g,0,none⟩) n cap:=by
  have:=F.es (19,V t) (by simp [eE])
  rw [hn,← hv]; exact this
 have e21:a.eval (.tmp 21)=.int .i64 (j:Int):=F.int (t:=21) (n:=(j:Int)) (by kernel_rfl)
 refine wpR_region ?_
 rw [fd8_size]
 show wpOpsIn (FW none) 0 Try.prog fd8 _ [0,1,2] a w
 refine wpOps_cons fd8_0.1 fd8_0.2.1 (wp_val (x:=.pointer (some ⟨g,j,none⟩)) (w':=w) (by simp [execOp,fd8_0.2.2.2,e19,e21,ia22_run hj,Result.andThen]) ?_)
 rw [fd8_0.2.2.1]
 have F1:=F.val (t:=23) (v:=.pointer (some ⟨g,j,none⟩)) (by decide) (by simp [lF,lK]) (by simp [eE])
 generalize a.put (some 23) (.pointer (some ⟨g,j,none⟩))=a1 at F1
 have e23:a1.eval (.tmp 23)=.pointer (some ⟨g,j,none⟩):=F1.es _ List.mem_cons_self
 refine wpOps_cons fd8_1.1 fd8_1.2.1 (wp_val (x:=u) (w':=w) (by simp [execOp,fd8_1.2.2.2,e23,ld57_run hcell,Result.andThen]) ?_)
 rw [fd8_1.2.2.1]
 have F2:=F1.val (t:=24) (v:=u) (by decide) (by simp [lF,lK]) (by simp [eE])
 generalize a1.put (some 24) u=a2 at F2
 have e24:a2.eval (.tmp 24)=u:=F2.es _ List.mem_cons_self
 refine wpOps_cons fd8_2.1 fd8_2.2.1 (wp_val (x:=u) (w':=w) (by simp [execOp,fd8_2.2.2.2,e24]) ?_)
 rw [fd8_2.2.2.1]
 have F3:=F2.val (t:=10) (v:=u) (by decide) (by simp [lF,lK]) (by simp [eE])
 exact next _ _ (F3.weak (fun p hp=>by
  simp only [eE,List.mem_cons,List.not_mem_nil,or_false] at hp ⊢
  rcases hp with h | h | h | h | h<;>simp [h]) (by
  simp only [lF,lK,List.forall_mem_cons]
  exact ⟨by kernel_rfl,by kernel_rfl,by kernel_rfl,by kernel_rfl,by kernel_rfl,by kernel_rfl,fun p hp=>by cases hp⟩))
def jMu (n:Nat) (a:Act):Nat:=match a.tmps.getD 21 Go.undef with
 | .int _ j=>(n - j).toNat
 | _=>0
theorem fd_loop2 (hU:∀ x∈o,0≤x∧x≤255) (hd:d≤1000) {t:Nat} (ht:t < 2) {i:Nat} (hi:i≤10000) {L:List (List Int)} (hL:LsOk2 L) (hn:(U t).length=L.length) {a:Act} {w:World} (F:FiI w0 ob fb (d:Int) V U (up Y t L) (eE ob fb V [(19,V t)]) (lF o d A B (i:Int) (lK t L.length 0 [])) a w) :
  WpR Try.prog (.loop fdL2) (fun e a' w'=>e=.exit 2∧FiI w0 ob fb (d:Int) V U (up Y t (flL o d i L)) (eE ob fb V [(19,V t)]) (lF o d A B ((i + d * L.length:Nat):Int) (lK t L.length L.length [])) a' w') a w:=by
 have hl8:=hL.1
 refine wpR_loop (fun a w=>∃ j:Nat,j≤L.length∧FiI w0 ob fb (d:Int) V U (up Y t (flT o d i j L)) (eE ob fb V [(19,V t)]) (lF o d A B ((i + d * j:Nat):Int) (lK t L.length j [])) a w) (fun a _=>jMu L.length a) ⟨0,Nat.zero_le _,by rw [flT_zero]; exact F⟩ fun a w hI=>?_
 obtain ⟨j,hj,F⟩:=hI
 have mu:jMu L.length a=L.length - j:=by
  unfold jMu
  rw [F.int (t:=21) (n:=(j:Int)) (by kernel_rfl)]
  show ((L.length:Int) - (j:Int)).toNat=_
  omega
 rw [fdL2_eq]
 refine wpR_seq (F.piece (fd_p7 o d A B _ t L.length j) (fd_d7 ob fb V _) fun a1 w1 F1=>?_)
 have hbl:=F1.bool (t:=22) (b:=decide ((j:Int) < (L.length:Int))) (by kernel_rfl)
 have F2:=F1.weak (E':=eE ob fb V [(19,V t)]) (l':=lF o d A B ((i + d * j:Nat):Int) (lK t L.length j [])) (fun p hp=>hp) (by
  simp only [lF,lK,List.forall_mem_cons]
  exact ⟨by kernel_rfl,by kernel_rfl,by kernel_rfl,by kernel_rfl,by kernel_rfl,by kernel_rfl,fun p hp=>by cases hp⟩)
 rcases Nat.lt_or_ge j L.length with hlt | hge
 ·rw [decide_eq_true (show (j:Int) < (L.length:Int) by omega)] at hbl
  refine wpR_seq (wpR_cond (t:=true) hbl (wpR_skip ?_))
  have hu:(U t)[j]?=some ((U t)[j]'(by omega)):=List.getElem?_eq_getElem _
  have hdj:d * j≤1000 * 8:=Nat.mul_le_mul hd (by omega)
  refine wpR_seq (wpR_block (wpR_seq (fd_r8 ht hn.symm hlt hu F2 fun a2 w2 F3=>?_)))
  refine wpR_seq (F3.piece (fd_p9 o d A B _ t L.length j) (fd_d9 ob fb V _ _) fun a3 w3 F4=>?_)
  have F5:=F4.weak (E':=eE ob fb V [(10,(U t)[j]'(by omega)),(19,V t)]) (l':=lF o d A B ((i + d * j:Nat):Int) (lK t L.length j (lJ d 0 []))) (fun p hp=>hp) (by
   simp only [lF,lK,lJ,List.forall_mem_cons]
   exact ⟨by kernel_rfl,by kernel_rfl,by kernel_rfl,by kernel_rfl,by kernel_rfl,by kernel_rfl,by kernel_rfl,by kernel_rfl,fun p hp=>by cases hp⟩)
  have hm:L.getD j []∈L:=by rw [List.getD_eq_getElem?_getD,List.getElem?_eq_getElem hlt]; exact List.getElem_mem _
  obtain ⟨h17,hbd⟩:=hL.2 _ hm
  refine wpR_block (wpR_mono (fd_loop3 (r:=[(10,(U t)[j]'(by omega)),(19,V t)]) (by simp) hU hd ht (by omega) hu (c:=L.getD j []) (by rw [up_same]; exact flT_get o d i hlt) h17 hbd (by simp [eE]) F5) fun e a4 w4 ⟨he,F6⟩=>?_)
  subst he
  rw [up_up,up_same,flT_step o d i hlt] at F6
  show WpR Try.prog (.region 17 fd17 false) _ a4 w4
  have F7:=F6.weak (E':=eE ob fb V [(19,V t)]) (l':=lF o d A B ((i + d * j + d:Nat):Int) (lK t L.length j [])) (fun p hp=>by
   simp only [eE,List.mem_cons,List.not_mem_nil,or_false] at hp ⊢
   rcases hp with h | h | h | h<;>simp [h]) (by
   simp only [lF,lK,List.forall_mem_cons]
   exact ⟨by kernel_rfl,by kernel_rfl,by kernel_rfl,by kernel_rfl,by kernel_rfl,by kernel_rfl,fun p hp=>by cases hp⟩)
  refine F7.piece (fd_p17 o d A B _ t L.length j) (fd_d17 ob fb V _) fun a5 w5 F8=>?_
  have ew:IntKind.i64.wrap ((j:Int) + 1)=((j + 1:Nat):Int):=by rw [IntKind.wrap_i64]; omega
  rw [ew] at F8
  have F9:=F8.weak (E':=eE ob fb V [(19,V t)]) (l':=lF o d A B ((i + d * (j + 1):Nat):Int) (lK t L.length ((j + 1:Nat):Int) [])) (fun p hp=>hp) (by
   rw [show i + d * (j + 1)=i + d * j + d by rw [Nat.mul_succ]; omega]
   simp only [lF,lK,List.forall_mem_cons]
   exact ⟨by kernel_rfl,by kernel_rfl,by kernel_rfl,by kernel_rfl,by kernel_rfl,by kernel_rfl,fun p hp=>by cases hp⟩)
  refine ⟨⟨j + 1,hlt,F9⟩,?_⟩
  have mu5:jMu L.length a5=L.length - (j + 1):=by
   unfold jMu
   rw [F9.int (t:=21) (n:=((j + 1:Nat):Int)) (by kernel_rfl)]
   show ((L.length:Int) - ((j + 1:Nat):Int)).toNat=_
   omega
  rw [mu,mu5]
  omega
 ·rw [decide_eq_false (show ¬ (j:Int) < (L.length:Int) by omega)] at hbl
  refine wpR_seq (wpR_cond (t:=false) hbl (wpR_exit ⟨rfl,?_⟩))
  have:j=L.length:=by omega
  subst this
  rw [flT_all] at F2
  exact F2
end
def fdY (o:List Int) (d:Nat) (A B:List (List Int)) (t:Nat):Nat→List (List Int):=fun s=>
 if s=0 then (if 0 < t then flL o d 0 A else A) else if s=1 then (if 1 < t then flL o d (d * A.length) B else B) else []
def fdI (d:Nat) (A B:List (List Int)) (t:Nat):Nat:=(if 0 < t then d * A.length else 0) + (if 1 < t then d * B.length else 0)
theorem fdY_up (o:List Int) (d:Nat) (A B:List (List Int)) {t:Nat} (ht:t < 2):up (fdY o d A B t) t (flL o d (fdI d A B t) (cpX' A B t))=fdY o d A B (t + 1):=by
 funext s
 rcases (show t=0∨t=1 by omega) with rfl | rfl
 ·by_cases h:s=0
  ·subst h; rfl
  ·rw [up_other _ _ h]
   unfold fdY
   rw [if_neg h,if_neg h]
   rfl
 ·by_cases h:s=1
  ·subst h; rfl
  ·rw [up_other _ _ h]
   unfold fdY
   rw [if_neg h,if_neg h]
   rfl
theorem fdY_at (o:List Int) (d:Nat) (A B:List (List Int)) {t:Nat} (ht:t < 2):fdY o d A B t t=cpX' A B t:=by
 rcases (show t=0∨t=1 by omega) with rfl | rfl<;>rfl
theorem fdI_next (d:Nat) (A B:List (List Int)) {t:Nat} (ht:t < 2):fdI d A B t + d * (cpX' A B t).length=fdI d A B (t + 1):=by
 rcases (show t=0∨t=1 by omega) with rfl | rfl
 ·show 0 + 0 + d * A.length=d * A.length + 0; omega
 ·show d * A.length + 0 + d * B.length=d * A.length + d * B.length; omega
section
variable {w0:World} {ob fb:Nat} {d:Nat} {V:Nat→Value} {U:Nat→List Value} {Y:Nat→List (List Int)} {o:List Int} {A B:List (List Int)}
theorem fd_r5 {t:Nat} (ht:t < 2) {i:Nat} {a:Act} {w:World} (F:FiI w0 ob fb (d:Int) V U Y (eE ob fb V []) (lF o d A B (i:Int) [(16,.int .i64 (t:Int))]) a w) {x:Code} {Q:Exit→Act→World→Prop}
  (next:∀ a' w',FiI w0 ob fb (d:Int) V U Y (eE ob fb V [(19,V t)]) (lF o d A B (i:Int) (lK t (U t).length 0 [])) a' w'→WpR Try.prog x Q a' w'):WpR Try.prog (.seq (.region 5 fd5 false) (.seq (.region 6 fd6 false) x)) Q a w:=by
 have hrow:=F.cp.row t ht
 obtain ⟨p,cap,hv⟩:∃ p cap,V t=.slice p (U t).length cap:=by
  rcases hrow.2 with ⟨h,h0⟩ | ⟨g,cap,cur,h1,_⟩
  ·exact ⟨none,0,by rw [h0]; exact h⟩
  ·exact ⟨_,cap,h1⟩
 have e15:a.eval (.tmp 15)=.agg #[V 0,V 1]:=F.es (15,.agg #[V 0,V 1]) (by simp [eE])
 have e16:a.eval (.tmp 16)=.int .i64 (t:Int):=F.int (t:=16) (n:=(t:Int)) (by kernel_rfl)
 refine wpR_seq (wpR_region ?_)
 rw [fd5_size]
 show wpOpsIn (FW none) 0 Try.prog fd5 _ [0,1] a w
 refine wpOps_cons fd5_0.1 fd5_0.2.1 (wp_val (x:=V t) (w':=w) (by simp [execOp,fd5_0.2.2.2,e15,e16,ix_run ht,Result.andThen]) ?_)
 rw [fd5_0.2.2.1]
 have F1:=F.val (t:=18) (v:=V t) (by decide) (by simp [lF]) (by simp [eE])
 generalize a.put (some 18) (V t)=a1 at F1
 have e18:a1.eval (.tmp 18)=V t:=F1.es _ List.mem_cons_self
 refine wpOps_cons fd5_1.1 fd5_1.2.1 (wp_val (x:=V t) (w':=w) (by simp [execOp,fd5_1.2.2.2,e18]) ?_)
 rw [fd5_1.2.2.1]
 have F2:=F1.val (t:=8) (v:=V t) (by decide) (by simp [lF]) (by simp [eE])
 generalize a1.put (some 8) (V t)=a2 at F2
 show WpR Try.prog (.seq (.region 6 fd6 false) x) Q a2 w
 refine wpR_seq (wpR_region ?_)
 rw [fd6_size]
 show wpOpsIn (FW none) 0 Try.prog fd6 _ [0,1,2] a2 w
 have e8:a2.eval (.tmp 8)=V t:=F2.es _ List.mem_cons_self
 refine wpOps_cons fd6_0.1 fd6_0.2.1 (wp_val (x:=V t) (w':=w) (by simp [execOp,fd6_0.2.2.2,e8]) ?_)
 rw [fd6_0.2.2.1]
 have F3:=F2.val (t:=19) (v:=V t) (by decide) (by simp [lF]) (by simp [eE])
 generalize a2.put (some 19) (V t)=a3 at F3
 have e19:a3.eval (.tmp 19)=.slice p (U t).length cap:=by rw [← hv]; exact F3.es _ List.mem_cons_self
 refine wpOps_cons fd6_1.1 fd6_1.2.1 (wp_val (x:=.int .i64 ((U t).length:Int)) (w':=w) (len_run fd6_1.2.2.2 e19) ?_)
 rw [fd6_1.2.2.1]
 have F4:=F3.val (t:=20) (v:=.int .i64 ((U t).length:Int)) (by decide) (by simp [lF]) (by simp [eE])
 generalize a3.put (some 20) (.int .i64 ((U t).length:Int))=a4 at F4
 refine wpOps_cons fd6_2.1 fd6_2.2.1 (wp_val (x:=.int .i64 0) (w':=w) (by simp [execOp,fd6_2.2.2.2,Act.eval]) ?_)
 rw [fd6_2.2.2.1]
 have F5:=F4.val (t:=21) (v:=.int .i64 0) (by decide) (by simp [lF]) (by simp [eE])
 have F6:=(F5.toL (t:=20) (n:=((U t).length:Int)) (List.mem_cons_of_mem _ List.mem_cons_self)).toL (t:=21) (n:=0) List.mem_cons_self
 exact next _ _ (F6.weak (fun q hq=>by
  simp only [eE,List.mem_cons,List.not_mem_nil,or_false] at hq ⊢
  rcases hq with h | h | h | h<;>simp [h]) (by
  simp only [lF,lK,List.cons_append,List.nil_append,List.forall_mem_cons]
  exact ⟨by kernel_rfl,by kernel_rfl,by kernel_rfl,by kernel_rfl,by kernel_rfl,by kernel_rfl,fun p hp=>by cases hp⟩))
def tMu (a:Act):Nat:=match a.tmps.getD 16 Go.undef with
 | .int _ j=>(2 - j).toNat
 | _=>0
theorem fd_loop1 (hU:∀ x∈o,0≤x∧x≤255) (hd:d≤1000) (hA:LsOk2 A) (hB:LsOk2 B) {a:Act} {w:World} (F:FiI w0 ob fb (d:Int) V U (fdY o d A B 0) (eE ob fb V []) (lF o d A B 0 [(16,.int .i64 0)]) a w) :
  WpR Try.prog (.loop fdL1) (fun e a' w'=>e=.exit 0∧∃ l,FiI w0 ob fb (d:Int) V U (fdY o d A B 2) (eE ob fb V []) l a' w') a w:=by
 refine wpR_loop (fun a w=>∃ t:Nat,t≤2∧FiI w0 ob fb (d:Int) V U (fdY o d A B t) (eE ob fb V []) (lF o d A B (fdI d A B t:Int) [(16,.int .i64 (t:Int))]) a w) (fun a _=>tMu a) ⟨0,by omega,F⟩ fun a w hI=>?_
 obtain ⟨t,ht,F⟩:=hI
 have mu:tMu a=2 - t:=by
  unfold tMu
  rw [F.int (t:=16) (n:=(t:Int)) (by kernel_rfl)]
  show ((2:Int) - (t:Int)).toNat=_
  omega
 rw [fdL1_eq]
 refine wpR_seq (F.piece (fd_p4 o d A B _ t) (fd_d4 ob fb V) fun a1 w1 F1=>?_)
 have hbl:=F1.bool (t:=17) (b:=decide ((t:Int) < 2)) (by kernel_rfl)
 have F2:=F1.weak (E':=eE ob fb V []) (l':=lF o d A B (fdI d A B t:Int) [(16,.int .i64 (t:Int))]) (fun p hp=>hp) (by
  simp only [lF,List.forall_mem_cons]
  exact ⟨by kernel_rfl,by kernel_rfl,by kernel_rfl,by kernel_rfl,fun p hp=>by cases hp⟩)
 rcases Nat.lt_or_ge t 2 with hlt | hge
 ·rw [decide_eq_true (show (t:Int) < 2 by omega)] at hbl
  refine wpR_seq (wpR_cond (t:=true) hbl (wpR_skip ?_))
  have hL:LsOk2 (cpX' A B t):=by
   unfold cpX'
   split
   ·exact hA
   ·exact hB
  have hY:=fdY_at o d A B hlt
  have hlen:(U t).length=(cpX' A B t).length:=by rw [F2.cp.len t hlt,hY]
  have hAl:=hA.1
  have hBl:=hB.1
  have hIb:fdI d A B t≤10000:=by
   rcases (show t=0∨t=1 by omega) with rfl | rfl
   ·exact Nat.zero_le _
   ·show d * A.length + 0≤10000
    have:d * A.length≤1000 * 8:=Nat.mul_le_mul hd hAl
    omega
  refine wpR_seq (wpR_block (fd_r5 hlt F2 fun a2 w2 F3=>?_))
  rw [hlen] at F3
  have F4:FiI w0 ob fb (d:Int) V U (up (fdY o d A B t) t (cpX' A B t)) (eE ob fb V [(19,V t)]) (lF o d A B (fdI d A B t:Int) (lK t (cpX' A B t).length 0 [])) a2 w2:=by rw [← hY,up_id,hY]; exact F3
  refine wpR_block (wpR_mono (fd_loop2 hU hd hlt hIb hL hlen F4) fun e a3 w3 ⟨he,F5⟩=>?_)
  subst he
  rw [fdY_up o d A B hlt,fdI_next d A B hlt] at F5
  show WpR Try.prog (.region 18 fd18 false) _ a3 w3
  have F6:=F5.weak (E':=eE ob fb V []) (l':=lF o d A B (fdI d A B (t + 1):Int) [(16,.int .i64 (t:Int))]) (fun p hp=>by
   simp only [eE,List.mem_cons,List.not_mem_nil,or_false] at hp ⊢
   rcases hp with h | h | h<;>simp [h]) (by
   simp only [lF,List.forall_mem_cons]
   exact ⟨by kernel_rfl,by kernel_rfl,by kernel_rfl,by kernel_rfl,fun p hp=>by cases hp⟩)
  refine F6.piece (fd_p18 o d A B _ t) (fd_d18 ob fb V) fun a4 w4 F7=>?_
  have ew:IntKind.i64.wrap ((t:Int) + 1)=((t + 1:Nat):Int):=by rw [IntKind.wrap_i64]; omega
  rw [ew] at F7
  have F8:=F7.weak (E':=eE ob fb V []) (l':=lF o d A B (fdI d A B (t + 1):Int) [(16,.int .i64 ((t + 1:Nat):Int))]) (fun p hp=>hp) (by
   simp only [lF,List.forall_mem_cons]
   exact ⟨by kernel_rfl,by kernel_rfl,by kernel_rfl,by kernel_rfl,fun p hp=>by cases hp⟩)
  refine ⟨⟨t + 1,hlt,F8⟩,?_⟩
  have mu5:tMu a4=2 - (t + 1):=by
   unfold tMu
   rw [F8.int (t:=16) (n:=((t + 1:Nat):Int)) (by kernel_rfl)]
   show ((2:Int) - ((t + 1:Nat):Int)).toNat=_
   omega
  rw [mu,mu5]
  omega
 ·rw [decide_eq_false (show ¬ (t:Int) < 2 by omega)] at hbl
  refine wpR_seq (wpR_cond (t:=false) hbl (wpR_exit ⟨rfl,?_⟩))
  have:t=2:=by omega
  subst this
  exact ⟨_,F2⟩
end
theorem fd_p0 (o:List Int) (d:Int) (A B:List (List Int)):evOps real tab fE false fd0 fd0.toList ⟨aS 53 [(0,RvA d A B),(1,.ro (.int .u8) o)],[]⟩ pairE=some (.normal,⟨aS 53 [(0,RvA d A B),(1,.ro (.int .u8) o),(2,.op 0 0),(4,.op 3 0)],cH0 d A B⟩):=by kernel_rfl
theorem fd_p2 (o:List Int) (d:Int) (A B:List (List Int)):evOps real tab fE false fd2 fd2.toList ⟨aS 53 [(1,.ro (.int .u8) o),(2,fRp d A B)],[]⟩ pairE=some (.normal,⟨aS 53 [(1,.ro (.int .u8) o),(2,fRp d A B),(6,.int .i64 0)],[]⟩):=by kernel_rfl
theorem fd1_0:fd1[0]?=some (fcOp fd1 0)∧(fcOp fd1 0).guard=none∧(fcOp fd1 0).dst=some 12∧(fcOp fd1 0).op=.load fV (.tmp 2):=⟨by kernel_rfl,by kernel_rfl,by kernel_rfl,by kernel_rfl⟩
theorem fd1_1:fd1[1]?=some (fcOp fd1 1)∧(fcOp fd1 1).guard=none∧(fcOp fd1 1).dst=some 13∧(fcOp fd1 1).op=.call { callee:=.value (.func 15),args:=#[.tmp 12],argTypes:=#[fV] }:=⟨by kernel_rfl,by kernel_rfl,by kernel_rfl,by kernel_rfl⟩
theorem fd1_2:fd1[2]?=some (fcOp fd1 2)∧(fcOp fd1 2).guard=none∧(fcOp fd1 2).dst=some 5∧(fcOp fd1 2).op=.alloc fV:=⟨by kernel_rfl,by kernel_rfl,by kernel_rfl,by kernel_rfl⟩
theorem fd1_3:fd1[3]?=some (fcOp fd1 3)∧(fcOp fd1 3).guard=none∧(fcOp fd1 3).dst=none∧(fcOp fd1 3).op=.store fV (.tmp 5) (.tmp 13):=⟨by kernel_rfl,by kernel_rfl,by kernel_rfl,by kernel_rfl⟩
theorem fd1_size:fd1.size=4:=by kernel_rfl
theorem fd3_0:fd3[0]?=some (fcOp fd3 0)∧(fcOp fd3 0).guard=none∧(fcOp fd3 0).dst=some 14∧(fcOp fd3 0).op=.fieldAddr fV (.tmp 5) 1:=⟨by kernel_rfl,by kernel_rfl,by kernel_rfl,by kernel_rfl⟩
theorem fd3_1:fd3[1]?=some (fcOp fd3 1)∧(fcOp fd3 1).guard=none∧(fcOp fd3 1).dst=some 15∧(fcOp fd3 1).op=.load fA2 (.tmp 14):=⟨by kernel_rfl,by kernel_rfl,by kernel_rfl,by kernel_rfl⟩
theorem fd3_2:fd3[2]?=some (fcOp fd3 2)∧(fcOp fd3 2).guard=none∧(fcOp fd3 2).dst=some 16∧(fcOp fd3 2).op=.move (.const (.int .i64 0)):=⟨by kernel_rfl,by kernel_rfl,by kernel_rfl,by kernel_rfl⟩
theorem fd3_size:fd3.size=3:=by kernel_rfl
theorem fd19_0:fd19[0]?=some (fcOp fd19 0)∧(fcOp fd19 0).guard=none∧(fcOp fd19 0).dst=some 52∧(fcOp fd19 0).op=.load fV (.tmp 5):=⟨by kernel_rfl,by kernel_rfl,by kernel_rfl,by kernel_rfl⟩
theorem fd19_1:fd19[1]?=some (fcOp fd19 1)∧(fcOp fd19 1).guard=none∧(fcOp fd19 1).dst=none∧(fcOp fd19 1).op=.store fV (.tmp 4) (.tmp 52):=⟨by kernel_rfl,by kernel_rfl,by kernel_rfl,by kernel_rfl⟩
theorem fd19_size:fd19.size=2:=by kernel_rfl
theorem al_run (w:World):(Instr.alloc fV true (.tuple #[])).run Try.prog w=.ok (.pointer (some ⟨w.heap.size,0,none⟩)) (w.alloc (.cells #[.int .i64 0,.slice none 0 0,.slice none 0 0] fV)):=by kernel_rfl
theorem cp_enter (args:Array Value) (w:World):(callFunc 15 args).run Try.prog w=.ok (.enter 15 args) w:=enters_of Try.func15 (by kernel_rfl) rfl args w
theorem Cp.lay {w0 w1 w2:World} {bx rb:Nat} {d:Int} {V:Nat→Value} {U:Nat→List Value} {X:Nat→List (List Int)} (C:Cp w1 w2 bx rb d V U X) (g01:w0.grownBy w1 none) {fb:Nat} {arr:Array Value} {ty:TypeId} (hf:w1.heap[fb]?=some (.cells arr ty (0,0))) (h3:arr.size=3) (hf0:w0.heap.size≤fb) (ob:Obj) :
  Cp w0 ((w2.alloc ob).setRow w2.heap.size #[.int .i64 d,V 0,V 1]) w2.heap.size fb d V U X∨¬ (∃ cs ty,ob=.cells cs ty (0,0)):=by
 by_cases hob:∃ cs ty,ob=.cells cs ty (0,0)
 case neg=>exact .inr hob
 obtain ⟨cs,tyo,rfl⟩:=hob
 left
 have ga:=grow_alloc w2 (.cells cs tyo)
 have gs:=grow_set (w2.alloc (.cells cs tyo)) w2.heap.size #[.int .i64 d,V 0,V 1]
 have hflt:fb < w1.heap.size:=lt_of_block hf
 have hs3:((w2.alloc (.cells cs tyo)).setRow w2.heap.size #[.int .i64 d,V 0,V 1]).heap.size=w2.heap.size + 1:=by
  rw [setRow_size]
  show (w2.heap.push _).size=_
  rw [Array.size_push]
 have old:∀ b,b < w2.heap.size→((w2.alloc (.cells cs tyo)).setRow w2.heap.size #[.int .i64 d,V 0,V 1]).heap[b]?=w2.heap[b]?:=fun b hb=>(setRow_other _ _ b _ (by omega)).trans (heap_alloc_old w2 _ hb)
 have tags:∀ p j b,cpBlk w2.heap.size fb V U p j=some b→(p=0∧j=0∧b=w2.heap.size)∨(p=0∧j=1∧b=fb)∨(1≤p∧cpBlk bx rb V U p j=some b):=fun p j b h=>by
  match p,j,h with
  | 0,0,h=>cases h; exact .inl ⟨rfl,rfl,rfl⟩
  | 0,1,h=>cases h; exact .inr (.inl ⟨rfl,rfl,rfl⟩)
  | 0,j + 2,h=>cases h
  | 1,0,h=>exact .inr (.inr ⟨by omega,h⟩)
  | 1,1,h=>exact .inr (.inr ⟨by omega,h⟩)
  | 1,j + 2,h=>cases h
  | 2,j,h=>exact .inr (.inr ⟨by omega,h⟩)
  | 3,j,h=>exact .inr (.inr ⟨by omega,h⟩)
  | p + 4,j,h=>cases h
 have kb:∀ p j b,cpBlk bx rb V U p j=some b→((w2.alloc (.cells cs tyo)).setRow w2.heap.size #[.int .i64 d,V 0,V 1]).heap[b]?=w2.heap[b]?:=fun p j b h=>old b (C.lo p j b h).2
 refine ⟨?_,⟨tyo,setRow_heap _ _ cs _ tyo (0,0) (heap_alloc_new w2 _)⟩,⟨arr,ty,(old fb (Nat.lt_of_lt_of_le hflt C.gr.size)).trans ((C.gr.block fb hflt (by simp)).trans hf),h3⟩,fun t ht=>owns_keep (C.row t ht) fun k hk=>kb 1 t k (by rw [cpBlk_v ht]; exact hk),C.len,fun t j u x ht hu hx=>⟨owns_keep (C.inn t j u x ht hu hx).1 fun k hk=>kb (2 + t) j k (by rw [cpBlk_u ht,hu]; exact hk),(C.inn t j u x ht hu hx).2⟩,fun p j q k b h1 h2=>?_,fun p j b h=>?_⟩
 ·have g02:=grow_trans g01 C.gr fun k e=>by cases e
  have g03:=grow_trans g02 ga fun k e=>by cases e
  exact grow_trans g03 gs fun k e=>by cases e; exact Nat.le_trans g01.size C.gr.size
 ·rcases tags p j b h1 with ⟨x1,x2,x3⟩ | ⟨x1,x2,x3⟩ | ⟨x1,x2⟩<;>rcases tags q k b h2 with ⟨y1,y2,y3⟩ | ⟨y1,y2,y3⟩ | ⟨y1,y2⟩
  ·omega
  ·have:=C.gr.size; omega
  ·have:=(C.lo q k b y2).2; omega
  ·have:=C.gr.size; omega
  ·omega
  ·have:=(C.lo q k b y2).1; omega
  ·have:=(C.lo p j b x2).2; omega
  ·have:=(C.lo p j b x2).1; omega
  ·exact C.inj p j q k b x2 y2
 ·rw [hs3]
  have h1:=C.gr.size
  have h2:=g01.size
  rcases tags p j b h with ⟨_,_,x3⟩ | ⟨_,_,x3⟩ | ⟨_,x2⟩
  ·omega
  ·omega
  ·have:=C.lo p j b x2; omega
theorem cpT_fdY (o:List Int) (d:Nat) (A B:List (List Int)):cpT A B 2=fdY o d A B 0:=by
 funext s
 unfold cpT fdY cpX'
 by_cases h0:s=0
 ·subst h0; rfl
 ·by_cases h1:s=1
  ·subst h1; rfl
  ·rw [if_neg (by omega),if_neg h0,if_neg h1]
theorem lsOk_of {L:List (List Int)} (h:LsOk2 L):LsOk L:=⟨h.1,fun x hx=>by
 have:=(h.2 x hx).1
 omega⟩
theorem fd_r1 {w0 w:World} (g01:w0.grownBy w none) {M:Nat→Prop} (low:∀ b,M b→b < w.heap.size) {pb fb:Nat} {arr0 arr:Array Value} {ty0 ty:TypeId} (hp:w.heap[pb]?=some (.cells arr0 ty0 (0,0))) (h03:arr0.size=3) (hf:w.heap[fb]?=some (.cells arr ty (0,0))) (h3:arr.size=3) (hf0:w0.heap.size≤fb) (hMf:¬ M fb)
  {o:List Int} {d:Nat} {A B:List (List Int)} (hA:LsOk2 A) (hB:LsOk2 B) (hm:Rep [] ⟨fun _=>Go.undef,M⟩ w (RvA d A B) (.agg arr0)) {a:Act} (hsz:a.tmps.size=53) (hdf:a.defers=[]) (e2:a.tmps.getD 2 Go.undef=.pointer (some ⟨pb,0,none⟩)) (e4:a.tmps.getD 4 Go.undef=.pointer (some ⟨fb,0,none⟩))
  (r1:Rep [] ⟨fun _=>Go.undef,M⟩ w (.ro (.int .u8) o) (a.tmps.getD 1 Go.undef)) (r2:Rep [] ⟨fun _=>Go.undef,M⟩ w (fRp d A B) (a.tmps.getD 2 Go.undef)) {Q:Exit→Act→World→Prop}
  (next:∀ ob V U a' w',FiI w0 ob fb (d:Int) V U (fdY o d A B 0) [(5,.pointer (some ⟨ob,0,none⟩)),(4,.pointer (some ⟨fb,0,none⟩))] [(1,.ro (.int .u8) o),(2,fRp d A B)] a' w'→Q .normal a' w'):WpR Try.prog (.region 1 fd1 false) Q a w:=by
 refine wpR_region ?_
 rw [fd1_size]
 show wpOpsIn (FW none) 0 Try.prog fd1 _ [0,1,2,3] a w
 have e2':a.eval (.tmp 2)=.pointer (some ⟨pb,0,none⟩):=e2
 refine wpOps_cons fd1_0.1 fd1_0.2.1 (wp_val (x:=.agg arr0) (w':=w) (by simp [execOp,fd1_0.2.2.2,e2',Instr.loadAt,Instr.sureAddr,ldV_run hp h03,Result.andThen]) ?_)
 rw [fd1_0.2.2.1]
 have p1:∀ s,s≠12→(a.put (some 12) (.agg arr0)).tmps.getD s Go.undef=a.tmps.getD s Go.undef:=fun s hs=>put_at a 12 _ hs
 have z1:(a.put (some 12) (.agg arr0)).tmps.size=53:=by rw [put_size]; exact hsz
 have q1:(a.put (some 12) (.agg arr0)).tmps.getD 12 Go.undef=.agg arr0:=put_getD_same a 12 _ (by omega)
 have d1:(a.put (some 12) (.agg arr0)).defers=[]:=hdf
 generalize a.put (some 12) (.agg arr0)=a1 at *
 refine wpOps_cons fd1_1.1 fd1_1.2.1 ⟨fun _ _=>trivial,?_⟩
 have hrun:(execOp a1.eval (fcOp fd1 1)).run Try.prog w=.ok (.enter 15 #[.agg arr0]) w:=by
  have hf:∀ f,a1.eval (.func f)=.func (.func f) #[] #[]:=fun _=>rfl
  have h12:a1.eval (.tmp 12)=.agg arr0:=q1
  simp [execOp,fd1_1.2.2.2,resolve,hf,h12,Deferred.ofValue,invoke,cp_enter]
 rw [semAt_of hrun (fun d w' e=>by cases e) (fun d c w' _ e=>by cases e),Oper.uponIn_enter]
 refine ⟨fun h=>by simp [FW] at h,(callsIn_of (copied_calls low (lsOk_of hA) (lsOk_of hB) hm)).mono fun e w2 he=>?_⟩
 obtain ⟨bx,rb,V,U,rfl,C⟩:=he
 show wpOpsIn (FW none) 0 Try.prog fd1 _ [2,3] (a1.put (fcOp fd1 1).dst (.agg #[.int .i64 (d:Int),V 0,V 1])) w2
 rw [fd1_1.2.2.1]
 have p2:∀ s,s≠13→(a1.put (some 13) (.agg #[.int .i64 (d:Int),V 0,V 1])).tmps.getD s Go.undef=a1.tmps.getD s Go.undef:=fun s hs=>put_at a1 13 _ hs
 have z2:(a1.put (some 13) (.agg #[.int .i64 (d:Int),V 0,V 1])).tmps.size=53:=by rw [put_size]; exact z1
 have q2:(a1.put (some 13) (.agg #[.int .i64 (d:Int),V 0,V 1])).tmps.getD 13 Go.undef=.agg #[.int .i64 (d:Int),V 0,V 1]:=put_getD_same a1 13 _ (by omega)
 have d2:(a1.put (some 13) (.agg #[.int .i64 (d:Int),V 0,V 1])).defers=[]:=d1
 generalize a1.put (some 13) (.agg #[.int .i64 (d:Int),V 0,V 1])=a2 at *
 refine wpOps_cons fd1_2.1 fd1_2.2.1 (wp_val (x:=.pointer (some ⟨w2.heap.size,0,none⟩)) (w':=w2.alloc (.cells #[.int .i64 0,.slice none 0 0,.slice none 0 0] fV)) (by simp [execOp,fd1_2.2.2.2,al_run,Result.andThen]) ?_)
 rw [fd1_2.2.2.1]
 have p3:∀ s,s≠5→(a2.put (some 5) (.pointer (some ⟨w2.heap.size,0,none⟩))).tmps.getD s Go.undef=a2.tmps.getD s Go.undef:=fun s hs=>put_at a2 5 _ hs
 have z3:(a2.put (some 5) (.pointer (some ⟨w2.heap.size,0,none⟩))).tmps.size=53:=by rw [put_size]; exact z2
 have q3:(a2.put (some 5) (.pointer (some ⟨w2.heap.size,0,none⟩))).tmps.getD 5 Go.undef=.pointer (some ⟨w2.heap.size,0,none⟩):=put_getD_same a2 5 _ (by omega)
 have d3:(a2.put (some 5) (.pointer (some ⟨w2.heap.size,0,none⟩))).defers=[]:=d2
 generalize a2.put (some 5) (.pointer (some ⟨w2.heap.size,0,none⟩))=a3 at *
 have e5:a3.eval (.tmp 5)=.pointer (some ⟨w2.heap.size,0,none⟩):=q3
 have e13:a3.eval (.tmp 13)=.agg #[.int .i64 (d:Int),V 0,V 1]:=(p3 13 (by decide)).trans q2
 have hone:(#[.int .i64 (d:Int),V 0,V 1]:Array Value).all (·.oneCell')=true:=by
  have h0:=owns_one (C.row 0 (by omega))
  have h1:=owns_one (C.row 1 (by omega))
  have h2:(Value.int .i64 (d:Int)).oneCell'=true:=rfl
  simp only [List.all_toArray,List.all_cons,List.all_nil,h0,h1,h2,Bool.and_true]
 have hal:(w2.alloc (.cells #[.int .i64 0,.slice none 0 0,.slice none 0 0] fV)).heap[w2.heap.size]?=some (.cells #[.int .i64 0,.slice none 0 0,.slice none 0 0] fV (0,0)):=heap_alloc_new w2 _
 have hst:=stV_run hal rfl rfl hone
 refine wpOps_cons fd1_3.1 fd1_3.2.1 (wp_skip' (w':=(w2.alloc (.cells #[.int .i64 0,.slice none 0 0,.slice none 0 0] fV)).setRow w2.heap.size #[.int .i64 (d:Int),V 0,V 1]) (by simp [execOp,fd1_3.2.2.2,e5,e13,Instr.storeAt,Instr.sureAddr,hst,Result.andThen]) ?_)
 rw [fd1_3.2.2.1]
 have C':=(C.lay g01 hf h3 hf0 (.cells #[.int .i64 0,.slice none 0 0,.slice none 0 0] fV)).resolve_right fun h=>h ⟨_,_,rfl⟩
 rw [cpT_fdY o d A B] at C'
 have wsz:=C.gr.size
 have same:∀ b,M b→((w2.alloc (.cells #[.int .i64 0,.slice none 0 0,.slice none 0 0] fV)).setRow w2.heap.size #[.int .i64 (d:Int),V 0,V 1]).heap[b]?=w.heap[b]?:=fun b hb=>by
  have hb':=low b hb
  exact (setRow_other _ _ b _ (by omega)).trans ((heap_alloc_old w2 _ (by omega)).trans (C.gr.block b hb' (by simp)))
 have le:=le_stay (g:=⟨fun _=>Go.undef,M⟩) same C.gr.os C.gr.tape C.gr.output (by
  rw [setRow_size]
  show w.heap.size≤(w2.heap.push _).size
  rw [Array.size_push]; omega)
 have k1:a3.tmps.getD 1 Go.undef=a.tmps.getD 1 Go.undef:=(p3 1 (by decide)).trans ((p2 1 (by decide)).trans (p1 1 (by decide)))
 have k2:a3.tmps.getD 2 Go.undef=a.tmps.getD 2 Go.undef:=(p3 2 (by decide)).trans ((p2 2 (by decide)).trans (p1 2 (by decide)))
 have k4:a3.tmps.getD 4 Go.undef=.pointer (some ⟨fb,0,none⟩):=(p3 4 (by decide)).trans ((p2 4 (by decide)).trans ((p1 4 (by decide)).trans e4))
 refine next _ V U _ _ ⟨⟨⟨fun _=>Go.undef,M⟩,fun b hb=>Nat.lt_of_lt_of_le (low b hb) le.size,fun b hb p j e=>?_,trep_aS z3 ?_⟩,C',?_,d3⟩
 ·have hb':=low b hb
  match p,j,e with
  | 0,0,e=>cases e; omega
  | 0,1,e=>cases e; exact hMf hb
  | 0,j + 2,e=>cases e
  | 1,j,e=>
    have:=(C.lo 1 j b (by
     match j,e with
     | 0,e=>exact e
     | 1,e=>exact e
     | j + 2,e=>cases e)).1
    omega
  | 2,j,e=>have:=(C.lo 2 j b e).1; omega
  | 3,j,e=>have:=(C.lo 3 j b e).1; omega
  | p + 4,j,e=>cases e
 ·simp only [List.forall_mem_cons]
  exact ⟨by rw [k1]; exact r1.mono le,by rw [k2]; exact r2.mono le,fun p hp=>by cases hp⟩
 ·simp only [List.forall_mem_cons]
  exact ⟨q3,k4,fun p hp=>by cases hp⟩
section
variable {w0:World} {ob fb:Nat} {d:Nat} {V:Nat→Value} {U:Nat→List Value} {o:List Int} {A B:List (List Int)}
theorem fd_d2 (ob fb:Nat):fd2.toList.all (fun o=>(([(5,.pointer (some ⟨ob,0,none⟩)),(4,.pointer (some ⟨fb,0,none⟩))]:List (Nat × Value)).map (·.1)).all fun t=>o.dst != some t)=true:=by kernel_rfl
theorem fd_r3 {a:Act} {w:World} (F:FiI w0 ob fb (d:Int) V U (fdY o d A B 0) [(5,.pointer (some ⟨ob,0,none⟩)),(4,.pointer (some ⟨fb,0,none⟩))] [(1,.ro (.int .u8) o),(2,fRp d A B)] a w) {x y:Code} {Q:Exit→Act→World→Prop}
  (next:∀ a' w',FiI w0 ob fb (d:Int) V U (fdY o d A B 0) (eE ob fb V []) (lF o d A B 0 [(16,.int .i64 0)]) a' w'→WpR Try.prog x (Exit.then (WpR Try.prog y Q) Q) a' w'):WpR Try.prog (.seq (.region 2 fd2 false) (.seq (.seq (.region 3 fd3 false) x) y)) Q a w:=by
 refine wpR_seq (F.piece (fd_p2 o d A B) (fd_d2 ob fb) fun a1 w1 F1=>?_)
 show WpR Try.prog (.seq (.seq (.region 3 fd3 false) x) y) Q a1 w1
 refine wpR_seq (wpR_seq (wpR_region ?_))
 rw [fd3_size]
 show wpOpsIn (FW none) 0 Try.prog fd3 _ [0,1,2] a1 w1
 have e5:a1.eval (.tmp 5)=.pointer (some ⟨ob,0,none⟩):=F1.es _ List.mem_cons_self
 obtain ⟨ty,hb⟩:=F1.cp.bxc
 refine wpOps_cons fd3_0.1 fd3_0.2.1 (wp_val (x:=.pointer (some ⟨ob,1,none⟩)) (w':=w1) (by simp [execOp,fd3_0.2.2.2,e5,fa_run,Result.andThen]) ?_)
 rw [fd3_0.2.2.1]
 have F2:=F1.val (t:=14) (v:=.pointer (some ⟨ob,1,none⟩)) (by decide) (by simp) (by simp)
 generalize a1.put (some 14) (.pointer (some ⟨ob,1,none⟩))=a2 at F2
 have e14:a2.eval (.tmp 14)=.pointer (some ⟨ob,1,none⟩):=F2.es _ List.mem_cons_self
 refine wpOps_cons fd3_1.1 fd3_1.2.1 (wp_val (x:=.agg #[V 0,V 1]) (w':=w1) (by simp [execOp,fd3_1.2.2.2,e14,ld23_run hb,Result.andThen]) ?_)
 rw [fd3_1.2.2.1]
 have F3:=F2.val (t:=15) (v:=.agg #[V 0,V 1]) (by decide) (by simp) (by simp)
 generalize a2.put (some 15) (.agg #[V 0,V 1])=a3 at F3
 refine wpOps_cons fd3_2.1 fd3_2.2.1 (wp_val (x:=.int .i64 0) (w':=w1) (by simp [execOp,fd3_2.2.2.2,Act.eval]) ?_)
 rw [fd3_2.2.2.1]
 have F4:=F3.val (t:=16) (v:=.int .i64 0) (by decide) (by simp) (by simp)
 have F5:=F4.toL (t:=16) (n:=0) List.mem_cons_self
 exact next _ _ (F5.weak (fun q hq=>by
  simp only [eE,List.mem_cons,List.not_mem_nil,or_false] at hq ⊢
  rcases hq with h | h | h<;>simp [h]) (by
  simp only [lF,List.forall_mem_cons]
  exact ⟨by kernel_rfl,by kernel_rfl,by kernel_rfl,by kernel_rfl,fun p hp=>by cases hp⟩))
theorem fd_end {Y:Nat→List (List Int)} {l:List (Nat × AVal)} {a:Act} {w:World} (F:FiI w0 ob fb (d:Int) V U Y (eE ob fb V []) l a w) {Q:Exit→Act→World→Prop}
  (next:∀ a' w',Cp w0 w' ob fb (d:Int) V U Y→a'.tmps.getD 4 Go.undef=.pointer (some ⟨fb,0,none⟩)→a'.defers=[]→(∃ ty,w'.heap[fb]?=some (.cells #[.int .i64 (d:Int),V 0,V 1] ty (0,0)))→Q .ret a' w'):WpR Try.prog (.seq (.region 19 fd19 false) .ret) Q a w:=by
 have hsz:=F.size
 obtain ⟨ty,hb⟩:=F.cp.bxc
 obtain ⟨arr,ty',hr,h3⟩:=F.cp.rbc
 refine wpR_seq (wpR_region ?_)
 rw [fd19_size]
 show wpOpsIn (FW none) 0 Try.prog fd19 _ [0,1] a w
 have e5:a.eval (.tmp 5)=.pointer (some ⟨ob,0,none⟩):=F.es (5,_) (by simp [eE])
 have e4:a.tmps.getD 4 Go.undef=.pointer (some ⟨fb,0,none⟩):=F.es (4,_) (by simp [eE])
 refine wpOps_cons fd19_0.1 fd19_0.2.1 (wp_val (x:=.agg #[.int .i64 (d:Int),V 0,V 1]) (w':=w) (by simp [execOp,fd19_0.2.2.2,e5,Instr.loadAt,Instr.sureAddr,ldV_run hb rfl,Result.andThen]) ?_)
 rw [fd19_0.2.2.1]
 have k4:(a.put (some 52) (.agg #[.int .i64 (d:Int),V 0,V 1])).eval (.tmp 4)=.pointer (some ⟨fb,0,none⟩):=(put_at a 52 _ (by decide)).trans e4
 have k52:(a.put (some 52) (.agg #[.int .i64 (d:Int),V 0,V 1])).eval (.tmp 52)=.agg #[.int .i64 (d:Int),V 0,V 1]:=put_getD_same a 52 _ (by rw [hsz]; decide)
 have hone:(#[.int .i64 (d:Int),V 0,V 1]:Array Value).all (·.oneCell')=true:=by
  have h0:=owns_one (F.cp.row 0 (by omega))
  have h1:=owns_one (F.cp.row 1 (by omega))
  have h2:(Value.int .i64 (d:Int)).oneCell'=true:=rfl
  simp only [List.all_toArray,List.all_cons,List.all_nil,h0,h1,h2,Bool.and_true]
 refine wpOps_cons fd19_1.1 fd19_1.2.1 (wp_skip' (w':=w.setRow fb #[.int .i64 (d:Int),V 0,V 1]) (by simp [execOp,fd19_1.2.2.2,k4,k52,Instr.storeAt,Instr.sureAddr,stV_run hr h3 rfl hone,Result.andThen]) ?_)
 rw [fd19_1.2.2.1]
 exact fun b _ _=>wpB_of (wpIn_ret (next _ _ (F.cp.setRb rfl) k4 F.df ⟨ty',setRow_heap w fb arr _ ty' (0,0) hr⟩))
end
theorem ro_ints {g:Gh} {w:World} {u:Value} {x:List Int} (h:w.ownsRow 0 fI 1 u x.length (x.map (Value.int .i64))) (hM:∀ b,u.ownBlock=some b→g.M b):Rep [] g w (.ro (.int .i64) x) u:=by
 rcases h.2 with ⟨rfl,h0⟩ | ⟨b,cap,cur,rfl,_,hg,hn,hc,_,htake⟩
 ·have:x=[]:=List.eq_nil_of_length_eq_zero h0
  subst this
  exact .ro0 _ none 0 (Nat.zero_le _) fun _=>rfl
 ·rcases Nat.eq_zero_or_pos x.length with h0 | h0
  ·have:x=[]:=List.eq_nil_of_length_eq_zero h0
   subst this
   exact .ro0 _ _ cap hc fun e=>by cases e
  ·have hcell:=h.cells (g:=b) rfl
   refine .ro1 (.int .i64) x b 0 cap (fun n _=>.int .i64 (x.getD n 0)) h0 hn hc (hM b rfl) (fun n (z:Int) j cc hz hcc=>?_) fun n (z:Int) j cc hz hcc=>?_
   ·match j,hcc with
    | 0,hcc=>
      have hz':x[n]?=some z:=hz
      have h1:=hcell n (.int .i64 z) (by rw [List.getElem?_map,hz']; rfl)
      rw [Addr.add_lit,Nat.zero_add] at h1
      have e1:0 + n * Sh.size (.int .i64) + 0=n:=by
       show 0 + n * 1 + 0=n
       omega
      rw [e1,List.getD_eq_getElem?_getD,hz']
      exact h1
   ·match j,hcc with
    | 0,hcc=>
      have hz':x[n]?=some z:=hz
      cases hcc
      show Rep [] g w (.int .i64 z) (.int .i64 (x.getD n 0))
      rw [List.getD_eq_getElem?_getD,hz']
      exact .int .i64 z
theorem ro_rows {w0 w:World} {bx rb:Nat} {d:Int} {V:Nat→Value} {U:Nat→List Value} {X:Nat→List (List Int)} (C:Cp w0 w bx rb d V U X) {g:Gh} (hM:∀ p j b,1≤p→cpBlk bx rb V U p j=some b→g.M b) {t:Nat} (ht:t < 2):Rep [] g w (.ro LsSh (X t)) (V t):=by
 have h:=C.row t ht
 have hl:=C.len t ht
 rcases h.2 with ⟨hv,h0⟩ | ⟨b,cap,cur,hv,_,hg,hn,hc,_,htake⟩
 ·have:X t=[]:=List.eq_nil_of_length_eq_zero (by omega)
  rw [this,hv]
  exact .ro0 _ none 0 (Nat.zero_le _) fun _=>rfl
 ·rcases Nat.eq_zero_or_pos (X t).length with h0 | h0
  ·have:X t=[]:=List.eq_nil_of_length_eq_zero h0
   rw [this,hv,show (U t).length=0 by omega]
   exact .ro0 _ _ cap hc fun e=>by cases e
  ·have hcell:=h.cells (g:=b) (by rw [hv]; rfl)
   have hb:cpBlk bx rb V U 1 t=some b:=by rw [cpBlk_v ht,hv]; rfl
   rw [hv,hl]
   refine .ro1 LsSh (X t) b 0 cap (fun n _=>(U t).getD n Go.undef) h0 (by show List.length (α:=List Int) (X t)≤cap; omega) hc (hM 1 t b (by omega) hb) (fun n (z:List Int) j cc hz hcc=>?_) fun n (z:List Int) j cc hz hcc=>?_
   ·match j,hcc with
    | 0,hcc=>
      have hlt:n < (U t).length:=by
       have h5:n < List.length (α:=List Int) (X t):=(List.getElem?_eq_some_iff.1 hz).1
       omega
      have h1:=hcell n ((U t)[n]) (List.getElem?_eq_getElem hlt)
      rw [Addr.add_lit,Nat.zero_add] at h1
      have e1:0 + n * Sh.size LsSh + 0=n:=by
       show 0 + n * 1 + 0=n
       omega
      rw [e1,List.getD_eq_getElem?_getD,List.getElem?_eq_getElem hlt]
      exact h1
   ·match j,hcc with
    | 0,hcc=>
      have hlt:n < (U t).length:=by
       have h5:n < List.length (α:=List Int) (X t):=(List.getElem?_eq_some_iff.1 hz).1
       omega
      cases hcc
      show Rep [] g w (.ro (.int .i64) z) ((U t).getD n Go.undef)
      have hu:(U t)[n]?=some ((U t)[n]):=List.getElem?_eq_getElem hlt
      rw [List.getD_eq_getElem?_getD,hu]
      exact ro_ints (C.inn t n _ z ht hu hz).1 fun k hk=>hM (2 + t) n k (by omega) (by rw [cpBlk_u ht,hu]; exact hk)
theorem fd_res {tmps:Array Value} {w:World} {fb:Nat} {cs:Array Value} {ty:TypeId} (h4:tmps.getD 4 Go.undef=.pointer (some ⟨fb,0,none⟩)) (hg:w.heap[fb]?=some (.cells cs ty (0,0))) (h3:cs.size=3):(results Try.f7 tmps).run Try.prog w=.ok (.agg cs) w:=by
 have hres:Try.f7.results=#[.cell 4 fV]:=by kernel_rfl
 have h1:(resF tmps (.cell 4 fV)).run Try.prog w=.ok (.agg cs) w:=by
  simp only [resF]
  rw [h4]
  exact ldV_run hg h3
 rw [results_eq,hres,Array.mapM_eq_mapM_toList,bind_map_left,Sem.run_bind]
 show ((List.mapM (resF tmps) [.cell 4 fV]).run Try.prog w).andThen _=_
 rw [List.mapM_cons,Sem.run_bind,h1]
 rfl
def FdPost (w0:World) (d:Int) (X:Nat→List (List Int)) (e:Ending) (w:World):Prop:=∃ ob fb V U,e=.returned (.agg #[.int .i64 d,V 0,V 1])∧Cp w0 w ob fb d V U X
theorem filled_calls {M:Nat→Prop} {w:World} (low:∀ b,M b→b < w.heap.size) {d:Nat} (hd:d≤1000) {A B:List (List Int)} (hA:LsOk2 A) (hB:LsOk2 B) {o:List Int} (hU:∀ x∈o,0≤x∧x≤255) {m q:Value} (hm:Rep [] ⟨fun _=>Go.undef,M⟩ w (RvA d A B) m) (hq:Rep [] ⟨fun _=>Go.undef,M⟩ w (.ro (.int .u8) o) q) :
  Calls Try.prog 7 #[m,q] w (FdPost w d (fdY o d A B 2)):=by
 have hbody:Try.f7.body=some fdA:=by kernel_rfl
 have hnt:Try.f7.ntmps=53:=by kernel_rfl
 refine calls_of_wpB Try.func7 hbody fun b hbf hbr=>?_
 have hfn:FnIn b.fn:=⟨_,by rw [hbf]; exact Try.func7⟩
 have main:WpR Try.prog fdA (bodyPostM (FW none) 0 Try.prog Try.f7 (FdPost w d (fdY o d A B 2))) { tmps:=#[m,q]++Array.replicate (Try.f7.ntmps - (#[m,q]:Array Value).size) Go.undef,defers:=[] } w:=by
  rw [hnt,fdA_eq]
  have g0:(#[m,q]++Array.replicate (53 - (#[m,q]:Array Value).size) Go.undef).getD 0 Go.undef=m:=by
   rw [Array.getD_eq_getD_getElem?,Array.getElem?_append_left (by simp)]
   rfl
  have g1:(#[m,q]++Array.replicate (53 - (#[m,q]:Array Value).size) Go.undef).getD 1 Go.undef=q:=by
   rw [Array.getD_eq_getD_getElem?,Array.getElem?_append_left (by simp)]
   rfl
  have hsz:(#[m,q]++Array.replicate (53 - (#[m,q]:Array Value).size) Go.undef).size=53:=by simp
  generalize #[m,q]++Array.replicate (53 - (#[m,q]:Array Value).size) Go.undef=tmps at *
  refine wpR_seq (pc (K:=fun b=>b < w.heap.size) (S:=[]) tabOk fE_ok (fd_p0 o d A B) (d_no _) (st_no low fun _ h=>h) (trep_aS hsz (by
   simp only [List.forall_mem_cons]
   exact ⟨by rw [g0]; exact hm,by rw [g1]; exact hq,fun p hp=>by cases hp⟩)) fun a1 w1 g' s1 le tr df _=>?_)
  show WpR Try.prog (.seq (.region 1 fd1 false) (.seq (.region 2 fd2 false) (.seq (.seq (.region 3 fd3 false) (.block 0 (.loop fdL1))) (.seq (.region 19 fd19 false) .ret)))) _ a1 w1
  have hsz1:a1.tmps.size=53:=by rw [← tr.1,aS_len]
  have g01:w.grownBy w1 none:=⟨le.os,le.tape,le.output,le.size,fun k hk _=>le.k k hk⟩
  obtain ⟨pb,arr0,ty0,e1,e2,e3,e4⟩:=box_at s1 (i:=0) (cs:=[.int .i64 (d:Int),.ro LsSh A,.ro LsSh B]) rfl
  obtain ⟨fb,arr,ty,f1,f2,f3,_⟩:=box_at s1 (i:=3) (cs:=[.int .i64 0,.own 1,.own 2]) rfl
  have a0:alive (cH0 d A B) 0:=⟨_,rfl,by simp⟩
  have a3:alive (cH0 d A B) 3:=⟨_,rfl,by simp⟩
  have bl0:blockOf (g'.ρ 0)=some pb:=by rw [e1]; rfl
  have bl3:blockOf (g'.ρ 3)=some fb:=by rw [f1]; rfl
  obtain ⟨k0,m0,z0⟩:=s1.sep 0 pb a0 bl0
  obtain ⟨k3,m3,z3⟩:=s1.sep 3 fb a3 bl3
  have hne:pb≠fb:=fun e=>by
   have:=s1.inj 0 3 pb a0 a3 bl0 (e ▸ bl3)
   omega
  have low1:∀ b,(g'.M b∨b=pb)→b < w1.heap.size:=fun b hb=>hb.elim (s1.low b) fun e=>e ▸ z0
  have pure:∀ (j:Nat) c x,([.int .i64 (d:Int),.ro LsSh A,.ro LsSh B]:List AVal)[j]?=some c→arr0[j]?=some x→Rep [] ⟨fun _=>Go.undef,fun b=>g'.M b∨b=pb⟩ w1 c x:=fun j c x hc hx=>by
   refine rep_pure0 (e4 j c x hc hx).2 ?_ fun b hb=>.inl hb
   match j,hc with
   | 0,hc=>cases hc; rfl
   | 1,hc=>cases hc; rfl
   | 2,hc=>cases hc; rfl
   | j + 3,hc=>simp at hc
  have rm:Rep [] ⟨fun _=>Go.undef,fun b=>g'.M b∨b=pb⟩ w1 (RvA d A B) (.agg arr0):=.agg _ _ e3.symm pure
  have t2:a1.tmps.getD 2 Go.undef=.pointer (some ⟨pb,0,none⟩):=op_at (tr.get 2) (i:=0) (off:=0) rfl e1
  have t4:a1.tmps.getD 4 Go.undef=.pointer (some ⟨fb,0,none⟩):=op_at (tr.get 4) (i:=3) (off:=0) rfl f1
  have r1:Rep [] ⟨fun _=>Go.undef,fun b=>g'.M b∨b=pb⟩ w1 (.ro (.int .u8) o) (a1.tmps.getD 1 Go.undef):=rep_pure0 (tr.get 1:Rep (cH0 d A B) g' w1 (.ro (.int .u8) o) _) rfl fun b hb=>.inl hb
  have r2:Rep [] ⟨fun _=>Go.undef,fun b=>g'.M b∨b=pb⟩ w1 (fRp d A B) (a1.tmps.getD 2 Go.undef):=by
   rw [t2]
   refine .rp _ pb 0 (fun j=>arr0.getD j Go.undef) (.inr rfl) (fun j c hc=>?_) fun j c hc=>?_
   ·have hlt:j < arr0.size:=by
     rw [e3]
     exact (List.getElem?_eq_some_iff.1 hc).1
    simp only [World.cell?,e2,Nat.zero_add]
    rw [Array.getD_eq_getD_getElem?,Array.getElem?_eq_getElem hlt]
    rfl
   ·have hlt:j < arr0.size:=by
     rw [e3]
     exact (List.getElem?_eq_some_iff.1 hc).1
    have hx:arr0[j]?=some (arr0.getD j Go.undef):=by
     rw [Array.getD_eq_getD_getElem?,Array.getElem?_eq_getElem hlt]
     rfl
    exact pure j c _ hc hx
  refine wpR_seq (fd_r1 g01 low1 e2 e3 f2 f3 (Nat.le_of_not_lt k3) (fun h=>h.elim m3 fun e=>hne e.symm) hA hB rm hsz1 df t2 t4 r1 r2 fun ob V U a2 w2 F=>?_)
  refine fd_r3 F fun a3 w3 F1=>?_
  refine wpR_block (wpR_mono (fd_loop1 hU hd hA hB F1) fun e a4 w4 ⟨he,l,F2⟩=>?_)
  subst he
  show WpR Try.prog (.seq (.region 19 fd19 false) .ret) _ a4 w4
  refine fd_end F2 fun a5 w5 C h4 hdf ⟨ty',hr⟩=>?_
  show LeavesInM (FW none) 0 Try.prog Try.f7 a5.tmps (FdPost w d (fdY o d A B 2)) a5.defers .returning w5
  rw [hdf]
  exact ⟨_,fd_res h4 hr rfl,ob,fb,V,U,rfl,C⟩
 exact main b hfn hbr
theorem lsOk2_of {L:List (List Int)} (h:rv1 L=true):LsOk2 L:=by
 refine ⟨(rv1_in h).2.1,fun x hx=>?_⟩
 have c:=rv1_17 h hx
 refine ⟨c.len,fun y hy=>?_⟩
 have hw:=c.w
 unfold cntW at hw
 simp only [Bool.and_eq_true,Bool.not_eq_true',List.any_eq_false] at hw
 obtain ⟨i,hi,rfl⟩:=List.mem_iff_getElem.1 hy
 have h1:=hw.2.2 i (List.mem_range.2 hi)
 rw [List.getD_eq_getElem?_getD,List.getElem?_eq_getElem hi] at h1
 have h2:cnO x[i]=true:=by simpa using h1
 unfold cnO at h2
 simp only [Bool.and_eq_true,decide_eq_true_eq] at h2
 omega
theorem flO_in {o:List Int} (h:flO o=true):∀ x∈o,0≤x∧x≤255:=fun x hx=>by
 unfold flO at h
 rw [Bool.and_eq_true] at h
 have h9:=List.all_eq_true.1 h.2 x hx
 rw [Bool.and_eq_true,decide_eq_true_eq,decide_eq_true_eq] at h9
 exact h9
theorem kflS_ok:FspOk Try.prog 7 kflS where
 enter:=fun args w=>enters_of Try.func7 (by kernel_rfl) rfl args w
 nat:=by intro α args k; unfold kflS; split<;>simp only [cond_bind,Option.bind_some,Option.bind_none]
 calls:=fun args out hout M w cargs low hl hr=>by
  unfold kflS at hout
  split at hout
  case h_2=>cases hout
  rename_i d A B o
  cases hb:flB d A B o
  ·rw [hb] at hout; cases hout
  rw [hb] at hout
  cases hout
  unfold flB at hb
  rw [Bool.and_eq_true] at hb
  obtain ⟨hrv,hO⟩:=hb
  obtain ⟨hA,hB,hd1,hd2⟩:=rvB_in hrv
  obtain ⟨n,rfl⟩:∃ n:Nat,d=(n:Int):=⟨d.toNat,by have hd1':1≤d:=hd1; omega⟩
  obtain ⟨cl⟩:=cargs
  match cl,hl with
  | [m,q],_=>
    have hd':n≤1000:=by have h:(n:Int)≤1000:=hd2; omega
    refine (filled_calls (A:=A) (B:=B) (o:=o) low hd' (lsOk2_of hA) (lsOk2_of hB) (flO_in hO) (hr 0 _ m rfl rfl) (hr 1 _ q rfl rfl)).mono fun e w' he=>?_
    obtain ⟨ob,fb,V,U,rfl,C⟩:=he
    refine ⟨fun b=>M b∨∃ p j,1≤p∧cpBlk ob fb V U p j=some b,fun _ h=>.inl h,fun b h=>h.imp id fun ⟨p,j,_,hb⟩=>(C.lo p j b hb).1,fun b h=>h.elim (fun h=>Nat.lt_of_lt_of_le (low b h) C.gr.size) fun ⟨p,j,_,hb⟩=>(C.lo p j b hb).2,⟨C.gr.os,C.gr.tape,C.gr.output,C.gr.size,fun k hk=>C.gr.block k hk (by simp)⟩,_,rfl,?_⟩
    have hM:∀ p j b,1≤p→cpBlk ob fb V U p j=some b→M b∨∃ p j,1≤p∧cpBlk ob fb V U p j=some b:=fun p j b hp h=>.inr ⟨p,j,hp,h⟩
    have r0:=ro_rows C (g:=⟨fun _=>Go.undef,fun b=>M b∨∃ p j,1≤p∧cpBlk ob fb V U p j=some b⟩) hM (t:=0) (by omega)
    have r1:=ro_rows C (g:=⟨fun _=>Go.undef,fun b=>M b∨∃ p j,1≤p∧cpBlk ob fb V U p j=some b⟩) hM (t:=1) (by omega)
    refine .agg _ _ rfl fun j c x hc hx=>?_
    match j,hc,hx with
    | 0,hc,hx=>cases hc; cases hx; exact .int .i64 _
    | 1,hc,hx=>cases hc; cases hx; exact r0
    | 2,hc,hx=>cases hc; cases hx; exact r1
    | j + 3,hc,_=>simp at hc
end Go.Proofs.Ytneggblnfobfcaa
namespace Go.Proofs.Ytneggblnfobfcaa
theorem u8_in {n:Int} (h:(Lit.int .u8 n).wf=true):0≤n∧n≤255:=by
 simp [Lit.wf,IntKind.min,IntKind.max,IntKind.signed,IntKind.bits] at h
 omega
def rvSh:Sh:=.recd (.cons (.int .i64) (.cons (.recd (.cons (.sl LsSh) (.cons (.sl LsSh) .nil))) .nil))
open Go.ChangeAt Go.ChangeShapes Go.RowKit Go.WideShapes
theorem flU_wf {o:List Int} (h:Wf (.sl (.int .u8)) o):flU o=true:=by
 unfold flU
 rw [List.all_eq_true]
 intro n hn
 have:=u8_in (h.2 n hn)
 rw [decide_eq_true this.1,decide_eq_true this.2]; rfl
set_option maxRecDepth 100000 in
theorem skipBetween_lifted (hfl:FspOk Try.prog 7 kflS) (os:Os) (started:os.Started) (H:Type) (enc:TypeId × Value→H) :
  ReturnsInHanded {} Try.checked os 3 .any (Rows.skipBetweenSpec.pre6 enc Try.prog Try.f3 Rows.skipBetweenRow.domain false) (Rows.skipBetweenSpec.post enc Try.prog Try.f3 false true false false):=by
 refine returnsInHanded_of_change (C:=Try.checked) own_knob started (by kernel_rfl) Try.func3
  (ChangeSpec.witness6 (enc:=enc) (C:=Try.checked) false ⟨#[],#[.agg #[.int .i64 0,.slice none 0 0,.slice none 0 0],.agg #[.int .i64 0,.int .i64 0,.int .i64 0],.slice none 0 0],[]⟩ 8 (by kernel_rfl) (by kernel_rfl) (by kernel_rfl) (by kernel_rfl)) ?_
 intro W base args ds gs before hval0 hW hcnd _
 have hval:∀ (j:Nat) t v,Try.f3.params[j]?=some t→args[j]?=some v→Value.okWide Try.prog W .any base t v:=hval0
 refine law_post (kbw_ok hfl) laid_out (.cons rvSh (.cons GsSh (.cons (.sl (.int .u8)) .nil))) (by kernel_rfl) rfl rfl Try.underlying4 (fun ys h=>if_pos (flU_wf h.2.2.1)) (fun ds hl=>?_) hval hW
 match ds,hl with
 | [d0,d1,d2],_=>exact ⟨rfl,rfl,rfl⟩
theorem skipBetween_holds' (hfl:FspOk Try.prog 7 kflS):Rows.SkipBetweenSaid:=
 OpenClaim.holds_of_wide 3 Try.f3 rfl rfl rfl rfl rfl rfl rfl ⟨rfl,rfl,rfl,rfl,rfl⟩ rfl rfl rfl rfl rfl (by kernel_rfl) Try.func3 (by kernel_rfl)
  (of_decide_eq_true (by kernel_rfl)) (by unfold Func.isWrapper; first | (rw [if_pos (by decide +kernel)]; kernel_rfl) | (rw [if_neg (by decide +kernel)]; exact ⟨rfl,rfl⟩))
  (fun os started H enc _=>skipBetween_lifted hfl os started H enc)
end Go.Proofs.Ytneggblnfobfcaa
