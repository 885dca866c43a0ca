/- Parts of the proof, in build order. -/
import Derived.Test.YtpgfncncgjihpaaGreatM4
import Derived.OrdersIn
import Derived.Test.YtpgfncncgjihpaaGreatM1
import Derived.LoopNIn
import Derived.Scope
import Derived.RangeFuncLeaves
import Derived.Laws.Sem
namespace Go.Proofs.YtpgfncncgjihpaaGreat
open Go.RowKit
def KHid (K:Nat→Prop) (ms:List Nat) (h:List ABlk) (g:Gh) (b:Nat):Prop:=K b∨∃n,ms.contains n=true∧alive h n∧blockOf (g.ρ n)=some b
theorem hide_cases (ms ls:List Nat) {h:List ABlk} {i:Nat} {b:ABlk} (e:(hideH ms ls h)[i]?=some b):∃b0,h[i]?=some b0∧((ms.contains i=true∧b=.dead)∨(ms.contains i=false∧(b=b0∨∃wr cs,b0=.box wr cs∧b=.box false cs))):=by
 rw[hideH_get] at e
 cases hx:h[i]? with
 |none=>rw[hx] at e; cases e
 |some b0=>
  rw[hx,Option.map_some] at e
  cases e
  refine⟨b0,rfl,?_⟩
  unfold hideB
  cases hm:ms.contains i
  ·refine .inr ⟨rfl,?_⟩
   rw[cond_false]
   cases ls.contains i
   ·exact .inl rfl
   ·rw[cond_true]
    cases b0 with
    |box wr cs=>exact .inr ⟨wr,cs,rfl,rfl⟩
    |_=>exact .inl rfl
  ·exact .inl ⟨rfl,rfl⟩
theorem hide_here {ms ls:List Nat} {h:List ABlk} {i:Nat} (a:Here h i):Here (hideH ms ls h) i:=by
 obtain⟨b,hb,hn⟩:=a
 refine⟨hideB ms ls i b,by rw[hideH_get,hb]; rfl,?_⟩
 unfold hideB
 cases ms.contains i
 ·cases ls.contains i
  ·exact hn
  ·cases b<;>first|exact hn|simp[lockX]
 ·simp
theorem rep_hide {ms ls:List Nat} {h:List ABlk} {g:Gh} {w:World} {v:AVal} {x:Value} (r:Rep h g w v x):Rep (hideH ms ls h) g w v x:=by
 induction r with
 |any v=>exact .any v
 |undef=>exact .undef
 |int k n=>exact .int k n
 |bool b=>exact .bool b
 |str s=>exact .str s
 |agg cs arr hl _ ih=>exact .agg cs arr hl ih
 |nils=>exact .nils
 |ro0 e p c hc hc'=>exact .ro0 e p c hc hc'
 |ro1 e xs b o c us h0 h1 h2 hm hc _ ih=>exact .ro1 e xs b o c us h0 h1 h2 hm hc ih
 |rp cs b o us hm hc _ ih=>exact .rp cs b o us hm hc ih
 |own i v hi h1 hv=>
  refine .own i v (hide_here hi) h1 fun wr t e xs hx=>?_
  obtain⟨b0,hb,h|⟨_,h|⟨_,_,_,h⟩⟩⟩:=hide_cases ms ls hx
  ·cases h.2
  ·subst h; exact hv _ _ _ _ hb
  ·cases h
 |op i off v hi h1 hv=>
  refine .op i off v (hide_here hi) h1 fun wr cs hx=>?_
  obtain⟨b0,hb,h|⟨_,h|⟨wr',cs',h',h⟩⟩⟩:=hide_cases ms ls hx
  ·cases h.2
  ·subst h; exact hv _ _ hb
  ·cases h; subst h'; exact hv _ _ hb
 |oe i ix off v hi h1 hv=>
  refine .oe i ix off v (hide_here hi) h1 fun wr t e xs hx h0=>?_
  obtain⟨b0,hb,h|⟨_,h|⟨_,_,_,h⟩⟩⟩:=hide_cases ms ls hx
  ·cases h.2
  ·subst h; exact hv _ _ _ _ hb h0
  ·cases h
 |fn f caps arr hl _ ih=>exact .fn f caps arr hl ih
 |tup cs arr hl _ ih=>exact .tup cs arr hl ih
 |ifc t c x _ ih=>exact .ifc t c x ih
 |nilif=>exact .nilif
 |nilfn=>exact .nilfn
 |nilmp=>exact .nilmp
 |nilpt=>exact .nilpt
 |yld i v hi h1 hv=>
  refine .yld i v (hide_here hi) h1 fun st pend tmps ps aw bo hx=>?_
  obtain⟨b0,hb,h|⟨_,h|⟨_,_,_,h⟩⟩⟩:=hide_cases ms ls hx
  ·cases h.2
  ·subst h; exact hv _ _ _ _ _ _ hb
  ·cases h
theorem hide_st {K:Nat→Prop} {ms ls:List Nat} {h:List ABlk} {g:Gh} {w:World} (s:St K h g w):St (KHid K ms h g) (hideH ms ls h) g w where
 blk:=fun i b hb=>by
  obtain⟨b0,h0,⟨_,e⟩|⟨_,e|⟨wr,cs,e0,e⟩⟩⟩:=hide_cases ms ls hb
  ·subst e; trivial
  ·subst e
   have o:=s.blk i b h0
   cases b with
   |dead=>trivial
   |free=>trivial
   |box wr cs=>
    obtain⟨n,arr,t,h1,h2,h3,h4⟩:=o
    exact⟨n,arr,t,h1,h2,h3,fun j c x a b=>⟨(h4 j c x a b).1,rep_hide (h4 j c x a b).2⟩⟩
   |row wr t e xs=>exact RowOk.same o fun _ h=>h
   |lp st pend ts ps aw bo=>
    obtain⟨l,arr,fn,D,h1,h2,h3,h4,hF⟩:=o
    exact⟨l,arr,fn,D,h1,h2,h3,fun j c x a b=>rep_hide (h4 j c x a b),hF⟩
  ·subst e; subst e0
   obtain⟨n,arr,t,h1,h2,h3,h4⟩:=s.blk i _ h0
   exact⟨n,arr,t,h1,h2,h3,fun j c x a b=>⟨(h4 j c x a b).1,rep_hide (h4 j c x a b).2⟩⟩
 inj:=fun i j b hi hj h1 h2=>by
  have al:∀i,alive (hideH ms ls h) i→alive h i:=fun i hi=>by
   obtain⟨b,hb,hd⟩:=hi
   obtain⟨b0,h0,⟨_,e⟩|⟨_,e|⟨wr,cs,e0,e⟩⟩⟩:=hide_cases ms ls hb
   ·exact absurd e hd
   ·subst e; exact⟨b,h0,hd⟩
   ·subst e0; exact⟨_,h0,by simp⟩
  exact s.inj i j b (al i hi) (al j hj) h1 h2
 sep:=fun i b hi hb=>by
  obtain⟨bb,hbb,hd⟩:=hi
  have key:alive h i∧ms.contains i=false:=by
   obtain⟨b0,h0,⟨_,e⟩|⟨hm,e|⟨wr,cs,e0,e⟩⟩⟩:=hide_cases ms ls hbb
   ·exact absurd e hd
   ·subst e; exact⟨⟨bb,h0,hd⟩,hm⟩
   ·subst e0; exact⟨⟨_,h0,by simp⟩,hm⟩
  obtain⟨z1,z2,z3⟩:=s.sep i b key.1 hb
  refine⟨fun hk=>?_,z2,z3⟩
  rcases hk with hk|⟨n,hn,ha,hnb⟩
  ·exact z1 hk
  ·have:=s.inj i n b key.1 ha hb hnb
   subst this
   rw[key.2] at hn; cases hn
 low:=s.low
 klow:=fun b hk=>by
  rcases hk with hk|⟨n,_,ha,hb⟩
  ·exact s.klow b hk
  ·exact (s.sep n b ha hb).2.2
def NoM (ms:List Nat) (v:AVal):Prop:=ms=[]∨∃n,noN ms n v=true
theorem NoM.part {ms:List Nat} {v c:AVal} (h:NoM ms v) (hp:∀n,noN ms (n+1) v=true→noN ms n c=true):NoM ms c:=by
 rcases h with h|⟨n,h⟩
 ·exact .inl h
 ·cases n with
  |zero=>cases h
  |succ n=>exact .inr ⟨n,hp n h⟩
theorem NoM.off {ms:List Nat} {v:AVal} {i:Nat} (h:NoM ms v) (hp:∀n,noN ms (n+1) v=true→ms.contains i=false):ms.contains i=false:=by
 rcases h with h|⟨n,h⟩
 ·subst h; rfl
 ·cases n with
  |zero=>cases h
  |succ n=>exact hp n h
section
variable {K:Nat→Prop} {ms ls:List Nat} {h h1:List ABlk} {g g1:Gh} {w w1:World}
theorem show_cases (oh:okH ms ls h=true) (hl:h.length≤h1.length) (lk:∀(i:Nat) (cs:List AVal),(hideH ms ls h)[i]?=some (ABlk.box false cs)→h1[i]?=some (ABlk.box false cs)) (i:Nat) :
  (ms.contains i=true∧i<h.length∧(showH ms ls h h1)[i]?=h[i]?)∨(ms.contains i=false∧((showH ms ls h h1)[i]?=h1[i]?∨∃(wr:Bool) (cs:List AVal),h[i]?=some (ABlk.box wr cs)∧h1[i]?=some (ABlk.box false cs)∧(showH ms ls h h1)[i]?=some (ABlk.box wr cs))):=by
 have hlt:(ms.contains i || ls.contains i)=true→i<h.length:=fun e=>okH_lt oh e
 cases hm:ms.contains i
 ·refine .inr ⟨rfl,?_⟩
  cases hs:ls.contains i
  ·left
   rw[showH_get,hm,hs]
   cases h1[i]?<;>rfl
  ·obtain⟨⟨wr,cs,hb⟩,_⟩:=okH_box oh hs
   right
   have hh:(hideH ms ls h)[i]?=some (.box false cs):=by
    rw[hideH_get,hb]
    simp only[Option.map_some,hideB,hm,hs,cond_false,cond_true,lockX]
   refine⟨wr,cs,hb,lk i cs hh,?_⟩
   rw[showH_get,lk i cs hh,hm,hs,Option.map_some,Bool.or_true,cond_true,List.getD_eq_getElem?_getD,hb]
   rfl
 ·have:=hlt (by rw[hm]; rfl)
  refine .inl ⟨rfl,this,?_⟩
  rw[showH_get,List.getElem?_eq_getElem (show i<h1.length by omega),hm,Option.map_some,Bool.true_or,cond_true,List.getD_eq_getElem?_getD,List.getElem?_eq_getElem this]
  rfl
theorem hide_post (s:St K h g w) (oh:okH ms ls h=true) (hl:h.length≤h1.length) (nb:∀i b,ms.contains i=false→h1[i]?=some b→ms=[]∨noNB ms b=true)
  (s1:St (KHid K ms h g) h1 g1 w1) (l:Le (KHid K ms h g) (hideH ms ls h) g w h1 g1 w1) :
  ∃g2,St K (showH ms ls h h1) g2 w1∧Le K h g w (showH ms ls h h1) g2 w1∧∀v x,NoM ms v→Rep h1 g1 w1 v x→Rep (showH ms ls h h1) g2 w1 v x:=by
 let g2:Gh:=⟨fun i=>if ms.contains i=true then g.ρ i else g1.ρ i,g1.M⟩
 have gm:∀i,ms.contains i=true→g2.ρ i=g.ρ i:=fun i hi=>if_pos hi
 have gn:∀i,ms.contains i=false→g2.ρ i=g1.ρ i:=fun i hi=>if_neg (by rw[hi]; simp)
 have sc:=show_cases (h1:=h1) oh hl l.lockb
 have rep2:∀v x,NoM ms v→Rep h1 g1 w1 v x→Rep (showH ms ls h h1) g2 w1 v x:=by
  intro v x hn r
  have hereS:∀i,ms.contains i=false→Here h1 i→Here (showH ms ls h h1) i:=fun i hi hh=>by
   obtain⟨b,hb,hf⟩:=hh
   rcases sc i with ⟨e,_⟩|⟨_,e|⟨wr,cs,_,_,e⟩⟩
   ·rw[hi] at e; cases e
   ·exact⟨b,e.trans hb,hf⟩
   ·exact⟨_,e,by simp⟩
  have sl:∀ {b:Bool},(!b)=true→b=false:=fun {b} hb=>by cases b<;>first|rfl|cases hb
  induction r with
  |any v=>exact .any v
  |undef=>exact .undef
  |int k n=>exact .int k n
  |bool b=>exact .bool b
  |str s=>exact .str s
  |agg cs arr hl' hx ih=>exact .agg cs arr hl' fun j c x a b=>ih j c x a b (hn.part fun n hh=>List.all_eq_true.1 (show cs.all (noN ms n)=true from hh) c (List.mem_of_getElem? a))
  |nils=>exact .nils
  |ro0 e p c hc hc'=>exact .ro0 e p c hc hc'
  |ro1 e xs b o c us h0 h1' h2 hm hc hx ih=>
   exact .ro1 e xs b o c us h0 h1' h2 hm hc fun n x j cc a a'=>rep_pure0 (hx n x j cc a a') (Sh.cells_pure e x cc (List.mem_of_getElem? a')) fun _ h=>h
  |rp cs b o us hm hc hx ih=>
   rcases hn with hn|⟨n,hn⟩
   ·exact .rp cs b o us hm hc fun j c a=>ih j c a (.inl hn)
   ·cases n<;>cases hn
  |own i v hi h1' hv=>
   have hi':=hn.off (i:=i) fun n hh=>sl hh
   refine .own i v (hereS i hi' hi) h1' fun wr t e xs hx=>?_
   rw[gn i hi']
   rcases sc i with ⟨e,_⟩|⟨_,e|⟨wr,cs,_,_,e⟩⟩
   ·rw[hi'] at e; cases e
   ·exact hv _ _ _ _ (e.symm.trans hx)
   ·rw[e] at hx; cases hx
  |op i off v hi h1' hv=>
   have hi':=hn.off (i:=i) fun n hh=>sl hh
   refine .op i off v (hereS i hi' hi) h1' fun wr cs hx=>?_
   rw[gn i hi']
   rcases sc i with ⟨e,_⟩|⟨_,e|⟨wr,cs,_,e0,e⟩⟩
   ·rw[hi'] at e; cases e
   ·exact hv _ _ (e.symm.trans hx)
   ·exact hv _ _ e0
  |oe i ix off v hi h1' hv=>
   have hi':=hn.off (i:=i) fun n hh=>sl hh
   refine .oe i ix off v (hereS i hi' hi) h1' fun wr t e xs hx h0=>?_
   rw[gn i hi']
   rcases sc i with ⟨e,_⟩|⟨_,e|⟨wr,cs,_,_,e⟩⟩
   ·rw[hi'] at e; cases e
   ·exact hv _ _ _ _ (e.symm.trans hx) h0
   ·rw[e] at hx; cases hx
  |fn f caps arr hl' hx ih=>exact .fn f caps arr hl' fun j c x a b=>ih j c x a b (hn.part fun n hh=>List.all_eq_true.1 (show caps.all (noN ms n)=true from hh) c (List.mem_of_getElem? a))
  |tup cs arr hl' hx ih=>exact .tup cs arr hl' fun j c x a b=>ih j c x a b (hn.part fun n hh=>List.all_eq_true.1 (show cs.all (noN ms n)=true from hh) c (List.mem_of_getElem? a))
  |ifc t c x hx ih=>exact .ifc t c x (ih (hn.part fun n hh=>hh))
  |nilif=>exact .nilif
  |nilfn=>exact .nilfn
  |nilmp=>exact .nilmp
  |nilpt=>exact .nilpt
  |yld i v hi h1' hv=>
   rcases hn with hn|⟨n,hn⟩
   ·have hi':ms.contains i=false:=by rw[hn]; rfl
    refine .yld i v (hereS i hi' hi) h1' fun st pend tmps ps aw bo hx=>?_
    rw[gn i hi']
    rcases sc i with ⟨e,_⟩|⟨_,e|⟨wr,cs,_,_,e⟩⟩
    ·rw[hi'] at e; cases e
    ·exact hv _ _ _ _ _ _ (e.symm.trans hx)
    ·rw[e] at hx; cases hx
   ·cases n<;>cases hn
 -- which blocks live
 have cls:∀i,alive (showH ms ls h h1) i→(ms.contains i=true∧alive h i)∨(ms.contains i=false∧alive h1 i):=fun i hi=>by
  obtain⟨b,hb,hd⟩:=hi
  rcases sc i with ⟨e,_,e1⟩|⟨e,e1|⟨wr,cs,_,e0,e1⟩⟩
  ·exact .inl ⟨e,b,e1.symm.trans hb,hd⟩
  ·exact .inr ⟨e,b,e1.symm.trans hb,hd⟩
  ·exact .inr ⟨e,_,e0,by simp⟩
 have le:Le K h g w (showH ms ls h h1) g2 w1:={
  len:=by unfold showH; rw[hid_len]; exact hl
  here:=fun i hi=>by
   obtain⟨b,hb,hf⟩:=l.here i (hide_here hi)
   rcases sc i with ⟨e,_,e1⟩|⟨e,e1|⟨wr,cs,_,e0,e1⟩⟩
   ·obtain⟨b',hb',hf'⟩:=hi
    exact⟨b',e1.trans hb',hf'⟩
   ·exact⟨b,e1.trans hb,hf⟩
   ·exact⟨_,e1,by simp⟩
  m:=l.m
  new:=fun b hb=>(l.new b hb).elim .inl fun hk=>.inr fun hh=>hk (.inl hh)
  mw:=l.mw
  k:=fun b hk=>l.k b (.inl hk)
  box:=fun i wr cs' hi hx=>by
   rcases sc i with ⟨e,_,e1⟩|⟨e,e1|⟨wr',cs,e0,e2,e1⟩⟩
   ·exact⟨wr,cs',e1.symm.trans hx,rfl,gm i e⟩
   ·obtain⟨wr0,cs,a1,a2,a3⟩:=l.box i wr cs' (hide_here hi) (e1.symm.trans hx)
    obtain⟨b0,b1,b2|⟨_,b2|⟨wr3,cs3,b3,b4⟩⟩⟩:=hide_cases ms ls a1
    ·cases b2.2
    ·subst b2; exact⟨_,_,b1,a2,by rw[gn i e]; exact a3⟩
    ·cases b4; subst b3; exact⟨_,_,b1,a2,by rw[gn i e]; exact a3⟩
   ·rw[hx] at e1; cases e1
    obtain⟨_,_,_,_,a3⟩:=l.box i false _ (hide_here hi) e2
    exact⟨_,_,e0,rfl,by rw[gn i e]; exact a3⟩
  row:=fun i wr t ee xs' hi hx=>by
   rcases sc i with ⟨e,_,e1⟩|⟨e,e1|⟨wr',cs,e0,e2,e1⟩⟩
   ·exact⟨wr,xs',e1.symm.trans hx,fun _=>rfl,gm i e⟩
   ·obtain⟨wr0,xs,a1,a2,a3⟩:=l.row i wr t ee xs' (hide_here hi) (e1.symm.trans hx)
    obtain⟨b0,b1,b2|⟨_,b2|⟨wr3,cs3,b3,b4⟩⟩⟩:=hide_cases ms ls a1
    ·cases b2.2
    ·subst b2; exact⟨_,_,b1,a2,by rw[gn i e]; exact a3⟩
    ·cases b4
   ·rw[hx] at e1; cases e1
  lp:=fun i st pend ts ps aw bo hi hx=>by
   rcases sc i with ⟨e,_,e1⟩|⟨e,e1|⟨wr',cs,e0,e2,e1⟩⟩
   ·exact⟨st,pend,e1.symm.trans hx,gm i e⟩
   ·obtain⟨st0,pend0,a1,a3⟩:=l.lp i st pend ts ps aw bo (hide_here hi) (e1.symm.trans hx)
    obtain⟨b0,b1,b2|⟨_,b2|⟨wr3,cs3,b3,b4⟩⟩⟩:=hide_cases ms ls a1
    ·cases b2.2
    ·subst b2; exact⟨_,_,b1,by rw[gn i e]; exact a3⟩
    ·cases b4
   ·rw[hx] at e1; cases e1
  lockb:=fun i cs hx=>by
   rcases sc i with ⟨e,_,e1⟩|⟨e,e1|⟨wr',cs',e0,e2,e1⟩⟩
   ·exact e1.trans hx
   ·refine e1.trans (l.lockb i cs ?_)
    rw[hideH_get,hx,Option.map_some,hideB,e,cond_false]
    cases ls.contains i<;>rfl
   ·rw[e0] at hx; cases hx; exact e1
  lockr:=fun i t ee xs hx=>by
   rcases sc i with ⟨e,_,e1⟩|⟨e,e1|⟨wr',cs',e0,e2,e1⟩⟩
   ·exact e1.trans hx
   ·refine e1.trans (l.lockr i t ee xs ?_)
    rw[hideH_get,hx,Option.map_some,hideB,e,cond_false]
    cases ls.contains i<;>rfl
   ·rw[e0] at hx; cases hx
  os:=l.os
  tape:=l.tape
  output:=l.output
  size:=l.size }
 refine⟨g2,?_,le,rep2⟩
 have cellN:∀ {b:ABlk} {cs:List AVal} {wr:Bool},b=.box wr cs→(ms=[]∨noNB ms b=true)→∀(j:Nat) c,cs[j]?=some c→NoM ms c:=fun {b cs wr} e hn j c hc=>by
  subst e
  rcases hn with hn|hn
  ·exact .inl hn
  ·exact .inr ⟨9,List.all_eq_true.1 (show cs.all (noN ms 9)=true from hn) c (List.mem_of_getElem? hc)⟩
 exact {
  blk:=fun i b hb=>by
   rcases sc i with ⟨e,_,e1⟩|⟨e,e1|⟨wr',cs',e0,e2,e1⟩⟩
   ·have hb':=e1.symm.trans hb
    exact (s.blk i b hb').mono le (gm i e) fun n hd hn=>l.k n (.inr ⟨i,e,⟨b,hb',hd⟩,hn⟩)
   ·have hb':=e1.symm.trans hb
    have o:=s1.blk i b hb'
    have hn:=nb i b e hb'
    cases b with
    |dead=>trivial
    |free=>trivial
    |box wr cs=>
     obtain⟨n,arr,t,h1',h2',h3',h4'⟩:=o
     exact⟨n,arr,t,by rw[gn i e]; exact h1',h2',h3',fun j c x a b=>⟨(h4' j c x a b).1,rep2 c x (cellN rfl hn j c a) (h4' j c x a b).2⟩⟩
    |row wr t ee xs=>
     show RowOk _ g2 w1 (g2.ρ i) t ee xs
     rw[gn i e]
     exact RowOk.same o fun _ h=>h
    |lp st pend ts ps aw bo=>
     rcases hn with hn|hn
     ·obtain⟨lq,arr,fn,D,h1',h2',h3',h4',hF⟩:=o
      exact⟨lq,arr,fn,D,by rw[gn i e]; exact h1',h2',h3',fun j c x a b=>rep2 c x (.inl hn) (h4' j c x a b),hF⟩
     ·cases hn
   ·rw[hb] at e1; cases e1
    obtain⟨n,arr,t,h1',h2',h3',h4'⟩:=s1.blk i _ e2
    exact⟨n,arr,t,by rw[gn i e]; exact h1',h2',h3',fun j c x a b=>⟨(h4' j c x a b).1,rep2 c x (cellN rfl (nb i _ e e2) j c a) (h4' j c x a b).2⟩⟩
  inj:=fun i j b hi hj h1' h2'=>by
   rcases cls i hi with ⟨ei,ai⟩|⟨ei,ai⟩
   ·rw[gm i ei] at h1'
    rcases cls j hj with ⟨ej,aj⟩|⟨ej,aj⟩
    ·rw[gm j ej] at h2'
     exact s.inj i j b ai aj h1' h2'
    ·rw[gn j ej] at h2'
     exact absurd (.inr ⟨i,ei,ai,h1'⟩) (s1.sep j b aj h2').1
   ·rw[gn i ei] at h1'
    rcases cls j hj with ⟨ej,aj⟩|⟨ej,aj⟩
    ·rw[gm j ej] at h2'
     exact absurd (.inr ⟨j,ej,aj,h2'⟩) (s1.sep i b ai h1').1
    ·rw[gn j ej] at h2'
     exact s1.inj i j b ai aj h1' h2'
  sep:=fun i b hi hb=>by
   rcases cls i hi with ⟨e,a⟩|⟨e,a⟩
   ·rw[gm i e] at hb
    obtain⟨z1,z2,z3⟩:=s.sep i b a hb
    refine⟨z1,fun hm=>?_,Nat.lt_of_lt_of_le z3 l.size⟩
    rcases l.new b hm with hm|hk
    ·exact z2 hm
    ·exact hk (.inr ⟨i,e,a,hb⟩)
   ·rw[gn i e] at hb
    obtain⟨z1,z2,z3⟩:=s1.sep i b a hb
    exact⟨fun hk=>z1 (.inl hk),z2,z3⟩
  low:=s1.low
  klow:=fun b hk=>Nat.lt_of_lt_of_le (s.klow b hk) l.size }
end
theorem free_le {K h g w w'} (s:St K h g w) {n:Nat} (hn:h[n]?=some .free) (nb:ABlk) (hnf:nb≠.free) (v:Value) (hb:Below w.heap.size w w'):Le K h g w (h.set n nb) (g.at n v) w':=by
 have ne:∀i,Here h i→i≠n:=fun i ⟨b,h1,h2⟩ e=>by subst e; rw[hn] at h1; cases h1; exact h2 rfl
 have get:∀i,i≠n→(h.set n nb)[i]?=h[i]?:=fun i hi=>by rw[List.getElem?_set,if_neg fun e=>hi e.symm]
 exact {
  len:=by simp
  here:=fun i hi=>by
   obtain⟨b,h1,h2⟩:=hi
   exact⟨b,by rw[get i (ne i ⟨b,h1,h2⟩)]; exact h1,h2⟩
  m:=fun _ h=>h
  new:=fun _ h=>.inl h
  mw:=fun b hb'=>hb.block b (s.low b hb')
  k:=fun b hb'=>hb.block b (s.klow b hb')
  box:=fun i wr cs' hi h'=>by
   rw[get i (ne i hi)] at h'
   exact⟨wr,cs',h',rfl,g.at_other v (ne i hi)⟩
  row:=fun i wr t e xs' hi h'=>by
   rw[get i (ne i hi)] at h'
   exact⟨wr,xs',h',fun _=>rfl,g.at_other v (ne i hi)⟩
  lp:=fun i st pend ts ps aw bo hi h'=>by
   rw[get i (ne i hi)] at h'
   exact⟨st,pend,h',g.at_other v (ne i hi)⟩
  lockb:=fun i cs h'=>by
   rw[get i fun e=>by subst e; rw[hn] at h'; cases h']; exact h'
  lockr:=fun i t e xs h'=>by
   rw[get i fun e=>by subst e; rw[hn] at h'; cases h']; exact h'
  os:=hb.os
  tape:=hb.tape
  output:=hb.output
  size:=hb.size }
theorem free_box {K h g w} (s:St K h g w) {n:Nat} (hn:h[n]?=some .free) (cs:List AVal) (arr:Array Value) (t:TypeId) (hl:arr.size=cs.length)
  (hr:∀(j:Nat) c x,cs[j]?=some c→arr[j]?=some x→c.scalar=true∧Rep h g w c x) :
  Le K h g w (h.set n (.box true cs)) (g.at n (.pointer (some ⟨w.heap.size,0,none⟩))) (w.alloc (.cells arr t)) ∧
  St K (h.set n (.box true cs)) (g.at n (.pointer (some ⟨w.heap.size,0,none⟩))) (w.alloc (.cells arr t)) ∧
  Rep (h.set n (.box true cs)) (g.at n (.pointer (some ⟨w.heap.size,0,none⟩))) (w.alloc (.cells arr t)) (.op n 0) (.pointer (some ⟨w.heap.size,0,none⟩)):=by
 have hb:Below w.heap.size w (w.alloc (.cells arr t)):=(Below.refl _ _).alloc (Nat.le_refl _) _
 have l:=free_le s hn (.box true cs) (by simp) (.pointer (some ⟨w.heap.size,0,none⟩)) hb
 have hlt:n<h.length:=(List.getElem?_eq_some_iff.1 hn).1
 have al:∀j,j≠n→alive (h.set n (.box true cs)) j→alive h j:=fun j hj ⟨b,h1,h2⟩=>by
  rw[List.getElem?_set,if_neg fun e=>hj e.symm] at h1
  exact⟨b,h1,h2⟩
 refine⟨l,?_,?_⟩
 ·exact {
   blk:=fun i b hb'=>by
    rcases set_get hb' with ⟨rfl,e,_⟩|⟨hne,e⟩
    ·subst e
     exact⟨w.heap.size,arr,t,g.at_same _ _,heap_alloc_new w _,hl,fun j c x a b=>⟨(hr j c x a b).1,(hr j c x a b).2.mono l⟩⟩
    ·exact (s.blk i b e).mono l (g.at_other _ hne) fun m hd hm=>Below.heap_alloc w _ m (s.sep i m ⟨b,e,hd⟩ hm).2.2
   inj:=fun i j b ai aj hi hj=>by
    by_cases ei:i=n
    ·by_cases ej:j=n
     ·omega
     ·subst ei
      rw[g.at_same] at hi
      rw[g.at_other _ ej] at hj
      simp only[blockOf,Option.some.injEq] at hi
      subst hi
      exact absurd (s.sep j _ (al j ej aj) hj).2.2 (Nat.lt_irrefl _)
    ·rw[g.at_other _ ei] at hi
     by_cases ej:j=n
     ·subst ej
      rw[g.at_same] at hj
      simp only[blockOf,Option.some.injEq] at hj
      subst hj
      exact absurd (s.sep i _ (al i ei ai) hi).2.2 (Nat.lt_irrefl _)
     ·rw[g.at_other _ ej] at hj
      exact s.inj i j b (al i ei ai) (al j ej aj) hi hj
   sep:=fun i b ai hi=>by
    by_cases ei:i=n
    ·subst ei
     rw[g.at_same] at hi
     simp only[blockOf,Option.some.injEq] at hi
     subst hi
     exact⟨fun hk=>Nat.lt_irrefl _ (s.klow _ hk),fun hm=>Nat.lt_irrefl _ (s.low _ hm),by simp⟩
    ·rw[g.at_other _ ei] at hi
     obtain⟨h1,h2,h3⟩:=s.sep i b (al i ei ai) hi
     exact⟨h1,h2,Nat.lt_of_lt_of_le h3 l.size⟩
   low:=fun b hb=>Nat.lt_of_lt_of_le (s.low b hb) l.size
   klow:=fun b hb=>Nat.lt_of_lt_of_le (s.klow b hb) l.size }
 ·refine .op _ _ _ (.of (b:=.box true cs) (by rw[List.getElem?_set,if_pos rfl,if_pos hlt]) (by simp)) rfl fun wr cs' hx=>⟨w.heap.size,g.at_same _ _,rfl⟩
theorem grow_free {K} {w:World}:∀(m:Nat) (h:List ABlk) (g:Gh),St K h g w→∃g',Le K h g w (h++List.replicate m .free) g' w∧St K (h++List.replicate m .free) g' w
 |0,h,g,s=>⟨g,by simpa using Le.refl,by simpa using s⟩
 |m+1,h,g,s=>by
  have l1:=le_grow s .free Go.undef (Below.refl w.heap.size w)
  have s1:St K (h++[.free]) (g.at h.length Go.undef) w:=s.grow .free Go.undef l1 (fun _ _ _ _=>rfl) trivial fun n hn=>by cases hn
  obtain⟨g',l2,s2⟩:=grow_free m _ _ s1
  rw[List.append_assoc] at l2 s2
  exact⟨g',l1.trans l2,s2⟩
theorem unfree_alike (h:List ABlk):Alike h (h.map unfreeB) where
 len:=by simp
 blk:=fun i b2 hb=>by
  rw[List.getElem?_map] at hb
  cases hx:h[i]? with
  |none=>rw[hx] at hb; cases hb
  |some b=>
   rw[hx] at hb
   simp only[Option.map_some,Option.some.injEq] at hb
   cases b<;>simp only[unfreeB] at hb<;>subst hb<;>first
    |exact .inl rfl
    |exact .inr ⟨_,rfl,rfl⟩
theorem unfree_le {K h0 g0 w0 h g w} (l:Le K h0 g0 w0 h g w):Le K h0 g0 w0 (h.map unfreeB) g w:=
 (unfree_alike h).le l (fun i cs _ h2=>by rw[List.getElem?_map,h2]; rfl) (fun i t e xs _ h2=>by rw[List.getElem?_map,h2]; rfl)
theorem back_alike {h0 h:List ABlk} {m:Nat} (hl:h.length=h0.length+m) (hh:∀i,i<h0.length→h[i]?=h0[i]?):Alike h (h0++List.replicate m .dead) where
 len:=by simp[hl]
 blk:=fun i b2 hb=>by
  rcases Nat.lt_or_ge i h0.length with hi|hi
  ·rw[List.getElem?_append_left hi] at hb
   exact .inr ⟨b2,by rw[hh i hi]; exact hb,rfl⟩
  ·rw[List.getElem?_append_right hi,List.getElem?_replicate] at hb
   split at hb
   ·cases hb; exact .inl rfl
   ·cases hb
theorem back_le {K h0 g0 w0 h g w} {m:Nat} (hl:h.length=h0.length+m) (hh:∀i,i<h0.length→h[i]?=h0[i]?) (l:Le K h0 g0 w0 h g w):Le K h0 g0 w0 (h0++List.replicate m .dead) g w:=by
 have key:∀(i:Nat) b,h0[i]?=some b→(h0++List.replicate m ABlk.dead)[i]?=some b:=fun i b h1=>by
  rw[List.getElem?_append_left (List.getElem?_eq_some_iff.1 h1).1]; exact h1
 exact (back_alike hl hh).le l (fun i cs h1 _=>key i _ h1) (fun i t e xs h1 _=>key i _ h1)
theorem back_le2 {K h0 g0 w0 h g w} {n m:Nat} (hl:h.length=n+m) (hn:h0.length≤n) (l:Le K h0 g0 w0 h g w):Le K h0 g0 w0 (h.take n++List.replicate m .dead) g w:=by
 have hlen:(h.take n).length=n:=by rw[List.length_take]; omega
 have hh:∀i,i<(h.take n).length→h[i]?=(h.take n)[i]?:=fun i hi=>by rw[hlen] at hi; rw[List.getElem?_take,if_pos hi]
 have key:∀(i:Nat) b,i<n→h[i]?=some b→(h.take n++List.replicate m ABlk.dead)[i]?=some b:=fun i b hi h1=>by
  rw[List.getElem?_append_left (by omega),List.getElem?_take,if_pos hi]; exact h1
 have lt:∀(i:Nat) b,h0[i]?=some b→i<n:=fun i b h1=>by have:=(List.getElem?_eq_some_iff.1 h1).1; omega
 exact (back_alike (by rw[hlen]; exact hl) hh).le l (fun i cs h1 _=>key i _ (lt i _ h1) (l.lockb i cs h1)) (fun i t e xs h1 _=>key i _ (lt i _ h1) (l.lockr i t e xs h1))
theorem pure_rep {h g w h' g'} (hM:∀b,g.M b→g'.M b) {c:AVal} {x:Value} (r:Rep h g w c x):c.pure0=true→Rep h' g' w c x:=by
 induction r with
 |int k n=>intro _; exact .int k n
 |bool b=>intro _; exact .bool b
 |str s=>intro _; exact .str s
 |nils=>intro _; exact .nils
 |ro0 e p c hc hc'=>intro _; exact .ro0 e p c hc hc'
 |ro1 e xs b o c us h0 h1 h2 hm hc _ ih=>intro _; exact .ro1 e xs b o c us h0 h1 h2 (hM b hm) hc fun n x j cc a b=>ih n x j cc a b (Sh.cells_pure e x cc (List.mem_of_getElem? b))
 |nilif=>intro _; exact .nilif
 |nilfn=>intro _; exact .nilfn
 |nilmp=>intro _; exact .nilmp
 |nilpt=>intro _; exact .nilpt
 |fn f caps arr hl hr _=>
  intro hp
  cases caps with
  |nil=>exact .fn f [] arr hl fun j c x hc _=>by simp at hc
  |cons _ _=>cases hp
 |any _=>intro hp; cases hp
 |undef=>intro hp; cases hp
 |_=>intro hp; cases hp
section
variable {h:List ABlk} {g:Gh} {w:World} {h1 h2:List ABlk} {g1 g2:Gh} {w1:World}
theorem rep_moved (hM:∀b,g1.M b→g2.M b) (hb:∀i,Here h i→h2[i]?=h1[i]?∧g2.ρ i=g1.ρ i∧Here h2 i) {c:AVal} {x0:Value} (r0:Rep h g w c x0):∀ {x:Value},Rep h1 g1 w1 c x→Rep h2 g2 w1 c x:=by
 induction r0 with
 |any v=>intro x _; exact .any x
 |undef=>intro x r; cases r; exact .undef
 |int k n=>intro x r; exact pure_rep hM r rfl
 |bool b=>intro x r; exact pure_rep hM r rfl
 |str s=>intro x r; exact pure_rep hM r rfl
 |nils=>intro x r; exact pure_rep hM r rfl
 |ro0 e p c hc hc'=>intro x r; exact pure_rep hM r rfl
 |ro1 e xs b o c us h0 h1 h2 hm hc _ ih=>intro x r; exact pure_rep hM r rfl
 |nilif=>intro x r; exact pure_rep hM r rfl
 |nilfn=>intro x r; exact pure_rep hM r rfl
 |nilmp=>intro x r; exact pure_rep hM r rfl
 |nilpt=>intro x r; exact pure_rep hM r rfl
 |agg cs arr hl _ ih=>
  intro x r
  cases r with
  |agg _ arr' hl' hr'=>exact .agg cs arr' hl' fun j c y a b=>ih j c _ a (Array.getElem?_eq_getElem (by have:=(List.getElem?_eq_some_iff.1 a).1; omega)) (hr' j c y a b)
 |tup cs arr hl _ ih=>
  intro x r
  cases r with
  |tup _ arr' hl' hr'=>exact .tup cs arr' hl' fun j c y a b=>ih j c _ a (Array.getElem?_eq_getElem (by have:=(List.getElem?_eq_some_iff.1 a).1; omega)) (hr' j c y a b)
 |fn f caps arr hl _ ih=>
  intro x r
  cases r with
  |fn _ _ arr' hl' hr'=>exact .fn f caps arr' hl' fun j c y a b=>ih j c _ a (Array.getElem?_eq_getElem (by have:=(List.getElem?_eq_some_iff.1 a).1; omega)) (hr' j c y a b)
 |ifc t c x _ ih=>
  intro y r
  cases r with
  |ifc _ _ y' hr'=>exact .ifc t c y' (ih hr')
 |rp cs b o us hm hc _ ih=>
  intro x r
  cases r with
  |rp _ b' o' us' hm' hc' hr'=>exact .rp cs b' o' us' (hM _ hm') hc' fun j c a=>ih j c a (hr' j c a)
 |own i v hi _ _=>
  intro x r
  obtain⟨e1,e2,e3⟩:=hb i hi
  cases r with
  |own _ _ _ hc hv=>exact .own i x e3 hc fun wr t e xs hx=>by rw[e2]; exact hv wr t e xs (e1▸hx)
 |op i off v hi _ _=>
  intro x r
  obtain⟨e1,e2,e3⟩:=hb i hi
  cases r with
  |op _ _ _ _ hc hv=>exact .op i off x e3 hc fun wr cs hx=>by rw[e2]; exact hv wr cs (e1▸hx)
 |oe i ix off v hi _ _=>
  intro x r
  obtain⟨e1,e2,e3⟩:=hb i hi
  cases r with
  |oe _ _ _ _ _ hc hv=>exact .oe i ix off x e3 hc fun wr t e xs hx=>by rw[e2]; exact hv wr t e xs (e1▸hx)
 |yld i v hi _ _=>
  intro x r
  obtain⟨e1,e2,e3⟩:=hb i hi
  cases r with
  |yld _ _ _ hc hv=>exact .yld i x e3 hc fun st pend ts ps aw bo hx=>by rw[e2]; exact hv st pend ts ps aw bo (e1▸hx)
end
theorem row_moved {K:Nat→Prop} {h:List ABlk} {g:Gh} {w:World} {g1:Gh} {w1:World} {A:List Nat} {b:ABlk} {n:Nat} (hrb:isRowB b) (hn:h[n]?=some .free) (s:St K h g w) (l1:Le K h g w (killD h A++[b]) g1 w1) (s1:St K (killD h A++[b]) g1 w1) :
  St K ((killD h A).set n b) (g1.at n (g1.ρ h.length)) w1∧Le K h g w ((killD h A).set n b) (g1.at n (g1.ρ h.length)) w1 ∧
  ∀x,Rep (killD h A++[b]) g1 w1 (.own h.length) x→Rep ((killD h A).set n b) (g1.at n (g1.ρ h.length)) w1 (.own n) x:=by
 have hlt:n<h.length:=(List.getElem?_eq_some_iff.1 hn).1
 have hbf:b≠.free:=fun e=>by subst e; exact hrb
 have kl:=killD_len A h
 have atn:((killD h A).set n b)[n]?=some b:=by rw[List.getElem?_set,if_pos rfl,if_pos (by omega)]
 have ato:∀i,i≠n→((killD h A).set n b)[i]?=(killD h A)[i]?:=fun i hi=>by rw[List.getElem?_set,if_neg fun e=>hi e.symm]
 have at1:∀i,i<h.length→(killD h A++[b])[i]?=(killD h A)[i]?:=fun i hi=>List.getElem?_append_left (by omega)
 have atl:(killD h A++[b])[h.length]?=some b:=by rw[←kl]; simp
 have ne:∀i,Here h i→i≠n∧i<h.length:=fun i hi=>⟨fun e=>by obtain⟨b',x1,x2⟩:=hi; subst e; rw[hn] at x1; cases x1; exact x2 rfl,hi.lt⟩
 have hb:∀i,Here h i→((killD h A).set n b)[i]?=(killD h A++[b])[i]?∧(g1.at n (g1.ρ h.length)).ρ i=g1.ρ i∧Here ((killD h A).set n b) i:=fun i hi=>by
  obtain⟨a1,a2⟩:=ne i hi
  refine⟨by rw[ato i a1,at1 i a2],g1.at_other _ a1,?_⟩
  obtain⟨b',x1,x2⟩:=hi
  rcases killD_at A h i with e|e
  ·exact⟨b',by rw[ato i a1,e,x1],x2⟩
  ·exact⟨.dead,by rw[ato i a1,e],by simp⟩
 have hM:∀b',g1.M b'→(g1.at n (g1.ρ h.length)).M b':=fun _ h=>h
 have mv:∀ {c:AVal} {x0 x:Value},Rep h g w c x0→Rep (killD h A++[b]) g1 w1 c x→Rep ((killD h A).set n b) (g1.at n (g1.ρ h.length)) w1 c x:=fun r0 r=>rep_moved hM hb r0 r
 have rowk:∀(i i':Nat) (b':ABlk),isRowB b'∨(∃t e xs,b'=.row false t e xs)→(g1.at n (g1.ρ h.length)).ρ i=g1.ρ i'→BlkOk (killD h A++[b]) g1 w1 i' b'→BlkOk ((killD h A).set n b) (g1.at n (g1.ρ h.length)) w1 i b':=fun i i' b' hr he o=>by
  have main:∀wr t e xs,b'=.row wr t e xs→BlkOk ((killD h A).set n b) (g1.at n (g1.ρ h.length)) w1 i b':=fun wr t e xs e'=>by
   subst e'
   have o':RowOk (killD h A++[b]) g1 w1 (g1.ρ i') t e xs:=o
   show RowOk _ _ w1 ((g1.at n (g1.ρ h.length)).ρ i) t e xs
   rw[he]; exact o'.same hM
  rcases hr with hr|⟨t,e,xs,e'⟩
  ·cases b' with
   |row wr t e xs=>exact main wr t e xs rfl
   |_=>cases hr
  ·exact main _ t e xs e'
 -- where a block was ahead of the move
 have fi:∀i,alive ((killD h A).set n b) i→∃i',alive (killD h A++[b]) i'∧(g1.at n (g1.ρ h.length)).ρ i=g1.ρ i'∧((i=n∧i'=h.length)∨(i≠n∧i'=i∧i<h.length)):=fun i ⟨b',x1,x2⟩=>by
  by_cases e:i=n
  ·subst e
   rw[atn] at x1
   cases x1
   exact⟨h.length,⟨b,atl,x2⟩,g1.at_same _ _,.inl ⟨rfl,rfl⟩⟩
  ·rw[ato i e] at x1
   have hi:i<h.length:=by have:=(List.getElem?_eq_some_iff.1 x1).1; omega
   exact⟨i,⟨b',by rw[at1 i hi]; exact x1,x2⟩,g1.at_other _ e,.inr ⟨e,rfl,hi⟩⟩
 refine⟨?_,?_,?_⟩
 ·exact {
   blk:=fun i b' hb'=>by
    by_cases e:i=n
    ·subst e
     rw[atn] at hb'
     cases hb'
     exact rowk i h.length b (.inl hrb) (g1.at_same _ _) (s1.blk h.length b atl)
    ·rw[ato i e] at hb'
     have hi:i<h.length:=by have:=(List.getElem?_eq_some_iff.1 hb').1; omega
     have o1:=s1.blk i b' (by rw[at1 i hi]; exact hb')
     have hρ:=g1.at_other (g1.ρ h.length) e
     rcases killD_at A h i with e2|e2
     ·rw[e2] at hb'
      have o0:=s.blk i b' hb'
      cases b' with
      |dead=>trivial
      |free=>trivial
      |box wr cs=>
       obtain⟨m,arr,t,q1,q2,q3,q4⟩:=o1
       obtain⟨_,arr0,_,_,_,p3,p4⟩:=o0
       exact⟨m,arr,t,by rw[hρ]; exact q1,q2,q3,fun j c x a b=>⟨(q4 j c x a b).1,mv (p4 j c _ a (Array.getElem?_eq_getElem (by have:=(List.getElem?_eq_some_iff.1 a).1; omega))).2 (q4 j c x a b).2⟩⟩
      |row wr t ee xs=>exact rowk i i _ (by cases wr; exact .inr ⟨t,ee,xs,rfl⟩; exact .inl trivial) hρ o1
      |lp st pend ts ps aw bo=>
       obtain⟨m,arr,fn,D,q1,q2,q3,q4,qF⟩:=o1
       obtain⟨_,arr0,_,_,_,_,p3,p4,_⟩:=o0
       exact⟨m,arr,fn,D,by rw[hρ]; exact q1,q2,q3,fun j c x a b=>mv (p4 j c _ a (Array.getElem?_eq_getElem (by have:=(List.getElem?_eq_some_iff.1 a).1; omega))) (q4 j c x a b),qF⟩
     ·rw[e2] at hb'; cases hb'; trivial
   inj:=fun i j m ai aj hi hj=>by
    obtain⟨i',ai',ei,ci⟩:=fi i ai
    obtain⟨j',aj',ej,cj⟩:=fi j aj
    rw[ei] at hi; rw[ej] at hj
    have:=s1.inj i' j' m ai' aj' hi hj
    omega
   sep:=fun i m ai hi=>by
    obtain⟨i',ai',ei,_⟩:=fi i ai
    rw[ei] at hi
    exact s1.sep i' m ai' hi
   low:=s1.low
   klow:=s1.klow }
 ·exact {
   len:=by simp[kl]
   here:=fun i hi=>(hb i hi).2.2
   m:=l1.m
   new:=l1.new
   mw:=l1.mw
   k:=l1.k
   box:=fun i wr cs' hi h'=>by
    obtain⟨e1,e2,_⟩:=hb i hi
    rw[e2]; exact l1.box i wr cs' hi (e1▸h')
   row:=fun i wr t e xs' hi h'=>by
    obtain⟨e1,e2,_⟩:=hb i hi
    rw[e2]; exact l1.row i wr t e xs' hi (e1▸h')
   lp:=fun i st pend ts ps aw bo hi h'=>by
    obtain⟨e1,e2,_⟩:=hb i hi
    rw[e2]; exact l1.lp i st pend ts ps aw bo hi (e1▸h')
   lockb:=fun i cs h'=>by rw[(hb i (.of h' (by simp))).1]; exact l1.lockb i cs h'
   lockr:=fun i t e xs h'=>by rw[(hb i (.of h' (by simp))).1]; exact l1.lockr i t e xs h'
   os:=l1.os
   tape:=l1.tape
   output:=l1.output
   size:=l1.size }
 ·intro x r
  cases r with
  |own _ _ _ hc hv=>
   refine .own n x ⟨b,atn,hbf⟩ hc fun wr t e xs hx=>?_
   rw[atn] at hx
   cases hx
   rw[g1.at_same]
   exact hv wr t e xs atl
theorem killAll_D:∀(l:List Nat) {h h':List ABlk},killAll h l=some h'→h'=killD h l
 | [],h,h',e=>by cases e; rfl
 |i::r,h,h',e=>by
  simp only[killAll] at e
  split at e
  ·exact killAll_D r e
  ·cases e
section
variable {ro:Option Nat} {P:Program} {T:Tab} {env:Env} {α:Type} {ops:Array Oper} {r:α} {K:Nat→Prop} {Q:Exit→Act→World→Prop} {next:Act→World→Prop} {o:Oper} {a:Act} {st:AS} {g:Gh} {w:World}
theorem rowmk_mem {op:Op} {ty:TypeId} {ρ:Operand→AVal} {h:List ABlk} {x:AExit} {v:AVal} {h1:List ABlk} (hr:isRowMk op=true) (hk:evOpH real T env true op ty ρ h tripE=some (x,v,h1)) :
  ∃A b,x=.normal∧v=.own h.length∧h1=killD h A++[b]∧isRowB b:=by
 cases op
 case makeSlice t l c=>
  obtain⟨o,ho,e⟩:=make_shape (T:=T) t (ρ l) (ρ c)
  have e':evOpH real T env true (.makeSlice t l c) ty ρ h tripE=o.bind fun b=>tripE .normal (.own h.length) (h++[b]):=e h _
  rw[e'] at hk
  cases o with
  |none=>cases hk
  |some b=>cases hk; exact⟨[],b,rfl,rfl,rfl,ho b rfl⟩
 case buildSlice t len parts=>
  simp only[evOpH] at hk
  split at hk
  case h_2=>cases hk
  split at hk
  case h_2=>cases hk
  split at hk
  case isFalse=>cases hk
  split at hk
  ·cases hk
  split at hk
  case isFalse=>cases hk
  split at hk
  ·cases hk
  split at hk
  case h_2=>cases hk
  rename_i h' xs hkill _
  cases hk
  have:=killAll_D _ hkill
  subst this
  exact⟨_,_,rfl,by rw[killD_len],rfl,trivial⟩
 case call c=>
  obtain⟨callee,args,ts⟩:=c
  cases callee with
  |value f=>cases hr
  |invoke y m=>cases hr
  |builtin b=>
   cases b<;>first|(cases hr; done)|skip
   simp only[evOpH] at hk
   split at hk
   case h_2=>cases hk
   rename_i ax ay t u ha ht
   split at hk
   case isFalse=>cases hk
   have hx:x=.normal:=by
    rw[evAppend_nat] at hk
    cases hq:evAppend real T t (ρ ax) (ρ ay) h (fun v h=>some (v,h)) with
    |none=>rw[hq] at hk; cases hk
    |some q=>rw[hq] at hk; cases hk; rfl
   subst hx
   have hA:∃A,blkRow (ρ ax)=some A:=by
    unfold evAppend at hk
    split at hk
    case h_2=>cases hk
    split at hk
    ·cases hk
    split at hk
    ·cases hk
    rename_i hrow
    generalize ρ ax=q at hrow
    cases q<;>first|exact⟨_,rfl⟩|cases hrow
   have hB:∃B,blkArg (ρ ay)=some B:=by
    unfold evAppend at hk
    split at hk
    case h_2=>cases hk
    split at hk
    ·cases hk
    split at hk
    ·cases hk
    split at hk
    case isFalse=>cases hk
    generalize ρ ay=q at hk
    cases q<;>first|exact⟨_,rfl⟩|(simp only[asRo] at hk; cases hk)
   obtain⟨A,hA⟩:=hA
   obtain⟨B,hB⟩:=hB
   obtain⟨b,b1,b2,b3,_⟩:=append_shape hA hB hk
   exact⟨A,b,rfl,b2,b3,b1⟩
 all_goals cases hr
open Classical in
theorem evD_row_wp (hT:TabOk P T) (hE:EnvOk P env) (s:St K st.heap g w) (htr:TRep st.heap g w st.tmps a.tmps) {n:Nat} {k:AExit→AVal→AS→Option α} (hr:isRowMk o.op=true) (hk:evOpH real T env true o.op o.type st.ev st.heap (fun x v h1=>relab n st.heap x v h1 (fun x v h=>k x v { st with heap:=h }))=some r) (c:OpCont K P o a st g w k r next Q):o.wpIn (FW ro) 0 P a w next Q:=by
 rw[evOpH_row hr] at hk
 cases hq:evOpH real T env true o.op o.type st.ev st.heap tripE with
 |none=>rw[hq] at hk; cases hk
 |some p=>
  obtain⟨x0,v0,h0⟩:=p
  rw[hq] at hk
  simp only[Option.bind_some] at hk
  obtain⟨A,b,rfl,rfl,rfl,hb⟩:=rowmk_mem hr hq
  have hn:st.heap[n]?=some .free:=by
   unfold relab at hk
   split at hk
   ·assumption
   ·cases hk
  have hk2:k .normal (.own n) { st with heap:=(killD st.heap A).set n b }=some r:=by
   unfold relab at hk
   rw[hn] at hk
   simp only at hk
   rw[if_pos (by simp[killD_len])] at hk
   have e2:(killD st.heap A++[b]).take st.heap.length=killD st.heap A:=by rw[←killD_len A st.heap]; simp
   have e3:(killD st.heap A++[b]).getD st.heap.length .dead=b:=by rw[←killD_len A st.heap]; simp
   rw[e2,e3] at hk
   exact hk
  refine evOp_wp (K:=K) (g:=g) (k:=fun x v st'=>if x=.normal∧v=.own st.heap.length∧st'.heap=killD st.heap A++[b] then some r else none) (r:=r) hT hE s htr true ?_ ⟨fun v st' g' w' x hk' htm s' l' hp=>?_,fun v u st' g' w' x hk' htm s' l' hp=>?_⟩
  ·unfold evOp
   rw[evOpH_row hr,hq]
   simp only[Option.bind_some]
   simp
  ·split at hk'
   ·rename_i hc
    obtain⟨_,rfl,e3⟩:=hc
    rw[e3] at s' l' hp
    obtain⟨q1,q2,q3⟩:=row_moved hb hn s l' s'
    exact c.on (.own n) { st with heap:=(killD st.heap A).set n b } _ w' x hk2 rfl q1 q2 (q3 x hp)
   ·cases hk'
  ·split at hk'
   ·rename_i hc
    cases hc.1
   ·cases hk'
theorem evD0_wp (hT:TabOk P T) (hE:EnvOk P env) (s:St K st.heap g w) (htr:TRep st.heap g w st.tmps a.tmps) {rp:Bool} {n:Nat} {k:AExit→AVal→AS→Option α} (hk:evD0 real T env rp n o.op o.type st.ev st.heap (fun x v h=>k x v { st with heap:=h })=some r) (c:OpCont K P o a st g w k r next Q):o.wpIn (FW ro) 0 P a w next Q:=by
 unfold evD0 at hk
 cases ha:isAlloc rp o.op with
 |false=>
  rw[ha] at hk
  exact evOp_wp hT hE s htr true hk c
 |true=>
  rw[ha] at hk
  simp only[cond_true] at hk
  by_cases hrow:isRowMk o.op=true
  ·exact evD_row_wp hT hE s htr hrow hk c
  have main:∀(t:TypeId) (v:AVal) (x:Value),Rep st.heap g w v x→v.cells.all AVal.scalar=true→(execOp a.eval o).run P w=.ok (.value (.pointer (some ⟨w.heap.size,0,none⟩))) (w.alloc (.cells x.cells t)) →
    relab n st.heap .normal (.op st.heap.length 0) (st.heap++[.box true v.cells]) (fun x v h=>k x v { st with heap:=h })=some r→o.wpIn (FW ro) 0 P a w next Q:=by
   intro t v x hr hs hrun hrel
   obtain⟨c1,c2,_⟩:=cells_rep hr hs
   unfold relab at hrel
   split at hrel
   ·rename_i hn
    simp only at hrel
    rw[if_pos (by simp)] at hrel
    obtain⟨l,s',hp⟩:=free_box s hn v.cells x.cells t c1 c2
    have e:((st.heap++[ABlk.box true v.cells]).take st.heap.length).set n ((st.heap++[ABlk.box true v.cells]).getD st.heap.length .dead)=st.heap.set n (.box true v.cells):=by simp
    rw[e] at hrel
    exact wp_value hrun (c.on _ { st with heap:=st.heap.set n (.box true v.cells) } _ _ _ hrel rfl s' l hp)
   ·cases hrel
  cases ho:o.op
  case alloc t=>
   rw[ho] at hk
   simp only[evOpH] at hk
   split at hk
   ·rename_i z hz
    split at hk
    ·rename_i hs
     obtain⟨zv,hzr,hzz⟩:=zero_rep (w:=w) (h:=st.heap) (g:=g) hT hz
     exact main t z zv hzz hs (by simp[execOp,ho,Instr.alloc,hzr,newVar,newRow,World.alloc_eq]) hk
    ·cases hk
   ·cases hk
  case box t x=>
   rw[ho] at hk
   simp only[evOpH] at hk
   split at hk
   ·rename_i hs
    rw[Bool.true_or,cond_true] at hk
    exact main t _ _ (htr.ev x) hs (by simp[execOp,ho,Instr.box,newVar,newRow,World.alloc_eq]) hk
   ·cases hk
  all_goals (have ha':(rp&&isRowMk o.op)=true:=by rw[ho] at ha ⊢; exact ha
             exact absurd ((Bool.and_eq_true _ _).mp ha').2 hrow)
theorem evD_wp (hT:TabOk P T) (hE:EnvOk P env) (s:St K st.heap g w) (htr:TRep st.heap g w st.tmps a.tmps) {rp:Bool} {n:Nat} {k:AExit→AVal→AS→Option α} (hk:evD real T env rp n o.op o.type st.ev st.heap (fun x v h=>k x v { st with heap:=h })=some r) (c:OpCont K P o a st g w k r next Q):o.wpIn (FW ro) 0 P a w next Q:=by
 unfold evD at hk
 split at hk
 ·exact evD0_wp hT hE s htr hk c
 cases hz:env.msk.isEmpty&&env.lck.isEmpty
 case true=>
  rw[hz] at hk
  exact evD0_wp hT hE s htr hk c
 rw[hz,cond_false] at hk
 cases ha:isAlloc rp o.op
 case true=>rw[ha] at hk; cases hk
 rw[ha,cond_false] at hk
 cases ho:okH env.msk env.lck st.heap
 case false=>rw[ho] at hk; cases hk
 rw[ho,cond_true] at hk
 have s':=hide_st (ms:=env.msk) (ls:=env.lck) s
 have t':TRep (hideH env.msk env.lck st.heap) g w ({ st with heap:=hideH env.msk env.lck st.heap }:AS).tmps a.tmps:=⟨htr.1,fun j c x a b=>rep_hide (htr.2 j c x a b)⟩
 have hev:({ st with heap:=hideH env.msk env.lck st.heap }:AS).ev=st.ev:=by funext y; cases y<;>rfl
 refine evOp_wp (st:={ st with heap:=hideH env.msk env.lck st.heap }) (K:=KHid K env.msk st.heap g) (g:=g) (k:=fun x v st'=>hidD env.msk env.lck st.heap x v st'.heap fun x v h=>k x v { st with heap:=h }) (r:=r) hT hE s' t' true ?_ ⟨fun v st1 g1 w1 x hk' htm s1 l1 hp=>?_,fun v u st1 g1 w1 x hk' htm s1 l1 hp=>?_⟩
 ·unfold evOp
  rw[hev]
  exact hk
 ·simp only[hidD] at hk'
  cases hs:okHid env.msk st.heap st1.heap v
  ·rw[hs] at hk'; cases hk'
  ·rw[hs,cond_true] at hk'
   have hl:=okHid_len hs
   unfold okHid at hs
   rw[Bool.and_eq_true,Bool.or_eq_true] at hs
   have hn:NoM env.msk v:=hs.2.elim (fun h=>.inl (List.isEmpty_iff.1 h)) fun h=>.inr ⟨9,(by rw[Bool.and_eq_true] at h; exact h.1)⟩
   obtain⟨g2,q1,q2,q3⟩:=hide_post s ho hl (fun i b hi hb=>hs.2.elim (fun h=>.inl (List.isEmpty_iff.1 h)) fun h=>.inr (by
    rw[Bool.and_eq_true] at h
    have:=List.all_eq_true.1 h.2 i (List.mem_range.2 (List.getElem?_eq_some_iff.1 hb).1)
    rw[hi,Bool.false_or,List.getD_eq_getElem?_getD,hb] at this
    exact this)) s1 l1
   exact c.on v { st with heap:=showH env.msk env.lck st.heap st1.heap } g2 w1 x hk' rfl q1 q2 (q3 v x hn hp)
 ·cases hk'
end
section
variable {ro:Option Nat} {P:Program} {T:Tab} {env:Env} {α:Type} {ops:Array Oper} {r:α} {K:Nat→Prop} {Q:Exit→Act→World→Prop}
inductive Waits (ops:Array Oper):Nat→Nat→Prop where
 |one (i:Nat) (o:Oper) (e:Edge):ops[i]?=some o→e∈o.after→Region.binds .any e=true→Waits ops i e.on
 |more (i j l:Nat):Waits ops i j→Waits ops j l→Waits ops i l
theorem waitsL_spec:∀(rest:List Oper) (acc:List (List Nat)),ops.toList.drop acc.length=rest→(∀i j,j∈acc.getD i []→Waits ops i j)→∀i j,j∈(waitsL rest acc).getD i []→Waits ops i j
 | [],acc,_,ha=>ha
 |o::rest,acc,hd,ha=>by
  simp only[waitsL]
  refine waitsL_spec rest _ (by rw[List.length_append,←List.drop_drop,hd]; rfl) fun i j hj=>?_
  rw[List.getD_eq_getElem?_getD] at hj
  rcases Nat.lt_trichotomy i acc.length with h|h|h
  ·rw[List.getElem?_append_left h,←List.getD_eq_getElem?_getD] at hj
   exact ha i j hj
  ·subst h
   rw[List.getElem?_append_right (Nat.le_refl _),Nat.sub_self] at hj
   simp only[List.getElem?_cons_zero,Option.getD_some,mem_dedup,List.mem_append,List.mem_filterMap,List.mem_flatMap] at hj
   have hio:ops[acc.length]?=some o:=by
    have:(ops.toList.drop acc.length)[0]?=some o:=by rw[hd]; rfl
    rw[List.getElem?_drop] at this; simpa using this
   have dir:∀l,(∃e,e∈o.after.toList∧(bif Region.binds .any e then some e.on else none)=some l)→Waits ops acc.length l:=by
    rintro l ⟨e,he,hl⟩
    cases hb:Region.binds .any e
    ·rw[hb] at hl; cases hl
    ·rw[hb] at hl
     simp only[cond_true,Option.some.injEq] at hl
     subst hl
     exact .one _ o e hio (by simpa using he) hb
   rcases hj with h|⟨l,h,h'⟩
   ·exact dir j h
   ·exact .more _ l _ (dir l h) (ha l j h')
  ·rw[List.getElem?_eq_none (by simp; omega)] at hj
   simp at hj
theorem waitsL_old:∀(rest:List Oper) (acc:List (List Nat)) (i:Nat),i<acc.length→(waitsL rest acc)[i]?=acc[i]?
 | [],acc,i,_=>rfl
 |o::rest,acc,i,hi=>by
  simp only[waitsL]
  rw[waitsL_old rest _ i (by simp; omega),List.getElem?_append_left hi]
theorem waitsL_more:∀(rest:List Oper) (acc:List (List Nat)) (i:Nat) (o:Oper),rest[i-acc.length]?=some o→acc.length≤i→∀e∈o.after,Region.binds .any e=true→e.on<i →
  ∀p∈(waitsL rest acc).getD e.on [],p∈(waitsL rest acc).getD i []
 | [],acc,i,o,ho,_=>by simp at ho
 |o'::rest,acc,i,o,ho,hi=>by
  intro e he hb hlt p hp
  simp only[waitsL] at hp ⊢
  rcases Nat.eq_or_lt_of_le hi with rfl|h
  ·rw[Nat.sub_self] at ho
   simp only[List.getElem?_cons_zero,Option.some.injEq] at ho
   subst ho
   rw[List.getD_eq_getElem?_getD,waitsL_old _ _ _ (by simp; omega),List.getElem?_append_left hlt,←List.getD_eq_getElem?_getD] at hp
   rw[List.getD_eq_getElem?_getD,waitsL_old _ _ _ (by simp),List.getElem?_append_right (Nat.le_refl _),Nat.sub_self]
   simp only[List.getElem?_cons_zero,Option.getD_some,mem_dedup,List.mem_append,List.mem_filterMap,List.mem_flatMap]
   exact .inr ⟨e.on,⟨e,by simpa using he,by rw[hb]; rfl⟩,hp⟩
  ·refine waitsL_more rest _ i o ?_ (by simp; omega) e he hb hlt p hp
   rw[List.length_append,List.length_singleton,←ho,show i-acc.length=(i-(acc.length+1))+1 by omega,List.getElem?_cons_succ]
def unl (ops:Array Oper) (listed:Array Bool):List Nat:=(List.range ops.size).filter fun i=>!listed.getD i true
def Closed (ops:Array Oper) (listed:Array Bool):Prop:=∀i o,ops[i]?=some o→listed.getD i false=true→∀e∈o.after,Region.binds .any e=true→listed.getD e.on false=true
theorem waits_listed {listed:Array Bool} (hc:Closed ops listed) {i j:Nat} (hw:Waits ops i j):(∀o,ops[i]?=some o→∀e∈o.after,Region.binds .any e=true→listed.getD e.on false=true)→listed.getD j false=true:=by
 induction hw with
 |one i o e ho he hb=>intro h; exact h o ho e he hb
 |more i j l _ _ ih1 ih2=>
  intro h
  have hj:=ih1 h
  exact ih2 fun o ho e he hb=>hc j o ho hj e he hb
theorem mem_unl {listed:Array Bool} {i:Nat}:i∈unl ops listed↔i<ops.size∧listed.getD i true=false:=by
 simp[unl]
theorem unl_lt {listed:Array Bool}:List.Pairwise (·<·) (unl ops listed):=List.Pairwise.filter _ (List.pairwise_lt_range)
theorem unl_set {listed:Array Bool} (hs:listed.size=ops.size) {i:Nat} (hil:i<ops.size):unl ops (listed.setIfInBounds i true)=(unl ops listed).filter (· != i):=by
 unfold unl
 rw[List.filter_filter]
 refine List.filter_congr fun j hj=>?_
 by_cases e:j=i
 ·subst e
  simp[hs,hil]
 ·have:i≠j:=fun e'=>e e'.symm
  have hne:(j != i)=true:=by simpa using e
  rw[hne,Bool.true_and]
  simp only[Array.getD_eq_getD_getElem?,Array.getElem?_setIfInBounds,if_neg this]
theorem map_front {f:Nat→Bool} {U:List Nat} {pre post:List En} {e:En} (hU:U.Pairwise (·<·)) (h:(pre++e::post).map (·.1)=U.filter f):(pre++post).map (·.1)=(U.filter (· != e.1)).filter f:=by
 have hp:((pre++e::post).map (·.1)).Pairwise (·<·):=by rw[h]; exact List.Pairwise.filter _ hU
 have e1:(U.filter (· != e.1)).filter f=(U.filter f).filter (· != e.1):=by
  rw[List.filter_filter,List.filter_filter]
  refine List.filter_congr fun j _=>?_
  rw[Bool.and_comm]
 rw[e1,←h]
 rw[List.map_append,List.map_cons] at hp
 rw[List.map_append,List.map_append,List.map_cons]
 rw[List.pairwise_append,List.pairwise_cons] at hp
 obtain⟨_,⟨h1,_⟩,h2⟩:=hp
 rw[List.filter_append,List.filter_cons_of_neg (by simp)]
 congr 1
 ·exact (List.filter_eq_self.2 fun j hj=>by have:=h2 j hj e.1 (by simp); simp; omega).symm
 ·exact (List.filter_eq_self.2 fun j hj=>by have:=h1 j hj; simp; omega).symm
def SeqL (ops:Array Oper) (L:List En):Prop:=∃e∈L,e.2.2=true∧∀e'∈L,e'.1=e.1∨(((waitsL ops.toList []).getD e.1 []).contains e'.1=true∧e'.2.2=false)
structure Left (T:Tab) (env:Env) (ops:Array Oper) (hb:List ABlk) (m:Nat) (s':AS) (pan':Pd) (listed:Array Bool) (L:List En) (st:AS):Prop where
 size:listed.size=ops.size
 closed:Closed ops listed
 fold:foldE T env ops hb.length L (st,none)=some (s',pan'.map (·.2))
 pans:∀ps u,pan'=some (ps,u)→∀j∈ps,∃e∈L,e.1=j∧e.2.2=true
 map:L.map (·.1)=(unl ops listed).filter fun j=>!offD (waitsL ops.toList []) j pan'
 edge:∀e∈L,∃o,ops[e.1]?=some o∧edgeB o e.1=true
 pair:L.Pairwise fun a b=>((waitsL ops.toList []).getD b.1 []).contains a.1=true∨IndE env ops a b
 high:pan'=none∨((∀e∈L,highB hb.length e.2.1=true)∧(st.heap.length=hb.length+m∧∀i,i<hb.length→st.heap[i]?=hb[i]?)∧s'.heap.length=hb.length+m∧s'.heap.take hb.length=hb)∨SeqL ops L
section
variable {hb:List ABlk} {m:Nat} {s':AS} {pan':Pd} {listed:Array Bool} {L:List En} {st:AS}
theorem getD_listed (hs:listed.size=ops.size) {j:Nat} (hj:j<ops.size):listed.getD j true=listed.getD j false:=by
 have:j<listed.size:=by omega
 simp only[Array.getD_eq_getD_getElem?,Array.getElem?_eq_getElem this,Option.getD_some]
theorem waits_of {i j:Nat} (h:((waitsL ops.toList []).getD i []).contains j=true):Waits ops i j:=
 waitsL_spec (ops:=ops) ops.toList [] rfl (fun i j h=>by simp at h) i j (by simpa using h)
theorem Left.mem (l:Left T env ops hb m s' pan' listed L st) {i:Nat}:i∈L.map (·.1)↔i∈unl ops listed∧offD (waitsL ops.toList []) i pan'=false:=by
 rw[l.map,List.mem_filter,Bool.not_eq_true']
theorem Left.ready (l:Left T env ops hb m s' pan' listed L st) {i:Nat} (hi:i∈Region.ready .any ops listed):∃pre F post o,L=pre++(i,F)::post∧ops[i]?=some o∧∀a∈pre,IndE env ops a (i,F):=by
 obtain⟨hun,o,ho,hall⟩:=mem_ready.1 hi
 have hiu:i∈unl ops listed:=mem_unl.2 ⟨(Array.getElem?_eq_some_iff.1 ho).1,hun⟩
 have no:∀j,((waitsL ops.toList []).getD i []).contains j=true→j∈unl ops listed→False:=fun j hw hj=>by
  have hjl:=waits_listed l.closed (waits_of hw) fun o' ho'=>by rw[ho] at ho'; cases ho'; exact hall
  obtain⟨hj1,hj2⟩:=mem_unl.1 hj
  rw[getD_listed l.size hj1,hjl] at hj2
  cases hj2
 have him:i∈L.map (·.1):=l.mem.2 ⟨hiu,by
  cases hp:pan' with
  |none=>rfl
  |some q=>
   cases hc:offD (waitsL ops.toList []) i (some q) with
   |false=>rfl
   |true=>
    obtain⟨ps,u⟩:=q
    simp only[offD,List.any_eq_true] at hc
    obtain⟨j,hj,hw⟩:=hc
    obtain⟨e,he,hej,_⟩:=l.pans ps u hp j hj
    exact (no j hw (l.mem.1 (by rw[←hej]; exact List.mem_map.2 ⟨e,he,rfl⟩)).1).elim⟩
 obtain⟨⟨i',F⟩,he,e⟩:=List.mem_map.1 him
 simp only at e
 subst e
 obtain⟨pre,post,hpp⟩:=List.append_of_mem he
 refine⟨pre,F,post,o,hpp,ho,fun a ha=>?_⟩
 have hp:=l.pair
 rw[hpp,List.pairwise_append] at hp
 rcases hp.2.2 a ha _ (List.mem_cons_self ..) with h|h
 ·exact (no a.1 h (l.mem.1 (by rw[hpp]; exact List.mem_map.2 ⟨a,List.mem_append_left _ ha,rfl⟩)).1).elim
 ·exact h
theorem Left.done (l:Left T env ops hb m s' pan' listed L st) (hr:Region.ready .any ops listed=[]):s'=st∧pan'=none:=by
 have hL:L=[]:=by
  cases hL:L with
  |nil=>rfl
  |cons e post=>
   exfalso
   obtain⟨o,ho,hedge⟩:=l.edge e (by rw[hL]; simp)
   have him:=l.mem.1 (show e.1∈L.map (·.1) by rw[hL]; simp)
   obtain⟨h1,h2⟩:=mem_unl.1 him.1
   have hlt:(L.map (·.1)).Pairwise (·<·):=by rw[l.map]; exact List.Pairwise.filter _ unl_lt
   rw[hL,List.map_cons,List.pairwise_cons] at hlt
   have:e.1∈Region.ready .any ops listed:=mem_ready.2 ⟨h2,o,ho,fun d hd hbd=>by
    have hon:d.on<e.1:=by
     have:=Array.all_eq_true'.1 hedge d hd
     simp only[hbd,Bool.not_true,Bool.false_or,decide_eq_true_eq] at this
     exact this
    cases hcl:listed.getD d.on false with
    |true=>rfl
    |false=>
     exfalso
     have hdu:d.on∈unl ops listed:=mem_unl.2 ⟨by omega,by rw[getD_listed l.size (by omega)]; exact hcl⟩
     have hoff:offD (waitsL ops.toList []) d.on pan'=false:=by
      cases hp:pan' with
      |none=>rfl
      |some q=>
       cases hc:offD (waitsL ops.toList []) d.on (some q) with
       |false=>rfl
       |true=>
        obtain⟨ps,u⟩:=q
        simp only[offD,List.any_eq_true,List.contains_eq_mem,decide_eq_true_eq] at hc
        obtain⟨j,hj,h3⟩:=hc
        have h4:=waitsL_more ops.toList [] e.1 o (by simpa using ho) (Nat.zero_le _) d hd hbd hon _ h3
        have h5:=him.2
        rw[hp] at h5
        simp only[offD,List.any_eq_false,List.contains_eq_mem,decide_eq_true_eq] at h5
        exact absurd h4 (h5 j hj)
     have hm:=l.mem.2 ⟨hdu,hoff⟩
     rw[hL,List.map_cons] at hm
     rcases List.mem_cons.1 hm with h|h
     ·omega
     ·have:=hlt.1 _ h; omega⟩
   rw[hr] at this
   cases this
 have:=l.fold
 rw[hL] at this
 simp only[foldE,Option.some.injEq,Prod.mk.injEq] at this
 refine⟨this.1.symm,?_⟩
 cases hp:pan' with
 |none=>rfl
 |some q=>rw[hp] at this; cases this.2
theorem Left.step (hE:EnvOk P env) (l:Left T env ops hb m s' pan' listed L st) {i:Nat} (hi:i∈Region.ready .any ops listed):∃o x v h1 p,ops[i]?=some o∧outD T env ops (placeOf hb.length ops.toList i) o st=some (x,v,h1)∧panD x none=some p ∧
  (p=none→∃L',L'.length<L.length∧Left T env ops hb m s' pan' (listed.setIfInBounds i true) L' (appD o st x v h1)) ∧
  (∀q,p=some q→pan'.map (·.2)=some q∧(((h1.length=hb.length+m∧∀i,i<hb.length→h1[i]?=hb[i]?)∧s'.heap.length=hb.length+m∧s'.heap.take hb.length=hb)∨s'.heap=h1)):=by
 obtain⟨pre,F,post,o,hpp,ho,hind⟩:=l.ready hi
 obtain⟨hun,o',ho',hall'⟩:=mem_ready.1 hi
 rw[ho] at ho'; cases ho'
 have hf:=l.fold
 rw[hpp] at hf
 obtain⟨t,hst,hft⟩:=fold_front hE pre post _ _ hind hf
 obtain⟨o',x,v,h1,p,i1,i2,i3,i4,rfl⟩:=stepE_some hst
 rw[ho] at i1; cases i1
 have hhigh:pan'=none∨((h1.length=hb.length+m∧∀i,i<hb.length→h1[i]?=hb[i]?)∧s'.heap.length=hb.length+m∧s'.heap.take hb.length=hb)∨SeqL ops L:=by
  rcases l.high with h|⟨a1,⟨a2,a3⟩,a4⟩|h
  rotate_left 2
  ·exact .inr (.inr h)
  ·exact .inl h
  ·refine .inr (.inl ?_)
   have hh:=a1 (i,F) (by rw[hpp]; simp)
   obtain⟨F,pn⟩:=F
   cases F with
   |none=>cases hh
   |some q=>
    obtain⟨F,W⟩:=q
    have lc:=outD_local hE i2 i3
    refine⟨⟨lc.len.trans a2,fun j hj=>(lc.off j fun hm=>?_).trans (a3 j hj)⟩,a4⟩
    have:=List.all_eq_true.1 hh j hm
    simp at this; omega
 refine⟨o,x,v,h1,p,ho,i3,i4.2,fun hp=>?_,fun q hq=>?_⟩
 ·subst hp
  refine⟨pre++post,by rw[hpp]; simp,?_⟩
  have sub:∀e∈pre++post,e∈L:=fun e he=>by
   rw[hpp]
   rcases List.mem_append.1 he with h|h
   ·exact List.mem_append_left _ h
   ·exact List.mem_append_right _ (List.mem_cons_of_mem _ h)
  have seqKeep:∀e∈L,e.2.2=true→(∀e'∈L,e'.1=e.1∨(((waitsL ops.toList []).getD e.1 []).contains e'.1=true∧e'.2.2=false))→SeqL ops (pre++post):=fun e he hf hall=>by
   refine⟨e,?_,hf,fun e' he'=>hall e' (sub e' he')⟩
   rw[hpp] at he
   rcases List.mem_append.1 he with h|h
   ·exact List.mem_append_left _ h
   ·rcases List.mem_cons.1 h with h|h
    ·exfalso
     subst h
     have i41:=i4.1
     rw[hf] at i41
     have i42:=i4.2
     cases x<;>first|cases i41|skip
     cases i42
    ·exact List.mem_append_right _ h
  exact {
   size:=by simpa using l.size
   closed:=by
    intro j oj hoj hjl e he hbd
    have up:∀n,listed.getD n false=true→(listed.setIfInBounds i true).getD n false=true:=fun n hn=>by
     simp only[Array.getD_eq_getD_getElem?,Array.getElem?_setIfInBounds] at hn ⊢
     split
     ·split
      ·rfl
      ·rename_i h1 h2
       subst h1
       rw[Array.getElem?_eq_none (by omega)] at hn; simp at hn
     ·exact hn
    by_cases e':j=i
    ·subst e'
     rw[ho] at hoj; cases hoj
     exact up _ (hall' e he hbd)
    ·refine up _ (l.closed j oj hoj ?_ e he hbd)
     have:i≠j:=fun h=>e' h.symm
     simpa only[Array.getD_eq_getD_getElem?,Array.getElem?_setIfInBounds,if_neg this] using hjl
   fold:=hft
   pans:=fun ps u e j hj=>by
    obtain⟨e1,he1,a,b⟩:=l.pans ps u e j hj
    rw[hpp] at he1
    rcases List.mem_append.1 he1 with h|h
    ·exact⟨e1,List.mem_append_left _ h,a,b⟩
    ·rcases List.mem_cons.1 h with h|h
     ·exfalso
      subst h
      have i41:=i4.1
      rw[b] at i41
      have i42:=i4.2
      cases x<;>first|cases i41|skip
      cases i42
     ·exact⟨e1,List.mem_append_right _ h,a,b⟩
   map:=by
    have hm:=l.map
    rw[hpp] at hm
    rw[unl_set l.size (Array.getElem?_eq_some_iff.1 ho).1]
    exact map_front (e:=(i,F)) unl_lt hm
   edge:=fun e he=>l.edge e (sub e he)
   pair:=l.pair.sublist (by rw[hpp]; exact (List.Sublist.refl pre).append (List.sublist_cons_self ..))
   high:=by
    rcases hhigh with h|⟨a2,a3⟩|⟨e,he,hf,hall⟩
    ·exact .inl h
    ·rcases l.high with h|⟨a1,_,_⟩|⟨e,he,hf,hall⟩
     ·exact .inl h
     ·exact .inr (.inl ⟨fun e he=>a1 e (sub e he),by rw[appD_heap]; exact a2,a3⟩)
     ·exact .inr (.inr (seqKeep e he hf hall))
    ·exact .inr (.inr (seqKeep e he hf hall)) }
 ·have hk:=foldE_keep _ _ _ hft hq
  refine⟨hk,?_⟩
  rcases hhigh with h|h|⟨e,he,hf,hall⟩
  ·rw[h] at hk; cases hk
  ·exact .inl h
  ·refine .inr ?_
   -- what panics is the one that waits for all: nothing else is left
   have hFp:F.2=true:=by
    have i41:=i4.1
    have i42:=i4.2
    rw[hq] at i42
    cases x with
    |pan v=>exact i41.symm
    |normal=>cases i42
    |exit j=>cases i42
    |ret=>cases i42
   have hie:i=e.1:=by
    rcases hall (i,F) (by rw[hpp]; simp) with h|h
    ·exact h
    ·have h2:=h.2
     rw[hFp] at h2; cases h2
   have no:∀e'∈L,e'.1=i:=fun e' he'=>by
    rcases hall e' he' with h|h
    ·rw[h,hie]
    ·exfalso
     have hw:=h.1
     rw[←hie] at hw
     have hj:=(l.mem.1 (List.mem_map.2 ⟨e',he',rfl⟩)).1
     have hjl:=waits_listed l.closed (waits_of hw) fun o' ho'=>by rw[ho] at ho'; cases ho'; exact hall'
     obtain⟨hj1,hj2⟩:=mem_unl.1 hj
     rw[getD_listed l.size hj1,hjl] at hj2
     cases hj2
   have hlt:(L.map (·.1)).Pairwise (·<·):=by rw[l.map]; exact List.Pairwise.filter _ unl_lt
   rw[hpp,List.map_append,List.map_cons,List.pairwise_append,List.pairwise_cons] at hlt
   have hpre:pre=[]:=by
    cases pre with
    |nil=>rfl
    |cons c r=>
     exfalso
     have h1:=no c (by rw[hpp]; simp)
     have h2:=hlt.2.2 c.1 (by simp) i (by simp)
     omega
   have hpost:post=[]:=by
    cases post with
    |nil=>rfl
    |cons c r=>
     exfalso
     have h1:=no c (by rw[hpp]; simp)
     have h2:=hlt.2.1.1 c.1 (by simp)
     omega
   rw[hpre,hpost] at hft
   simp only[List.nil_append,foldE,Option.some.injEq,Prod.mk.injEq] at hft
   rw[←hft.1,appD_heap]
end
theorem any_wp (hT:TabOk P T) (hE:EnvOk P env) {hb h0:List ABlk} {g0:Gh} {w0:World} {m:Nat} {s':AS} {pan':Pd} (ds:List Deferred)
  (hend:∀a w g,pan'=none→St K s'.heap g w→Le K h0 g0 w0 s'.heap g w→TRep s'.heap g w s'.tmps a.tmps→a.defers=ds→Q .normal a w)
  (hpan:∀q (st:AS) a w g x,pan'.map (·.2)=some q→s'.tmps.length=st.tmps.length→(((st.heap.length=hb.length+m∧∀i,i<hb.length→st.heap[i]?=hb[i]?)∧s'.heap.length=hb.length+m∧s'.heap.take hb.length=hb)∨s'.heap=st.heap)→St K st.heap g w→Le K h0 g0 w0 st.heap g w→TRep st.heap g w st.tmps a.tmps→a.defers=ds→Rep st.heap g w q x→Q (.panic [{ v:=x,recovered:=false }]) a w) :
  ∀(fuel:Nat) (listed:Array Bool) (L:List En) (st:AS) (a:Act) (w:World) (g:Gh),Left T env ops hb m s' pan' listed L st→L.length≤fuel →
   St K st.heap g w→Le K h0 g0 w0 st.heap g w→TRep st.heap g w st.tmps a.tmps→a.defers=ds→wpAnyIn (FW ro) 0 P .any ops Q fuel listed a w:=by
 have done:∀(listed:Array Bool) (L:List En) (st:AS) (a:Act) (w:World) (g:Gh),Left T env ops hb m s' pan' listed L st→Region.ready .any ops listed=[]→St K st.heap g w→Le K h0 g0 w0 st.heap g w→TRep st.heap g w st.tmps a.tmps→a.defers=ds→Q .normal a w:=by
  intro listed L st a w g lf hr s l t hd
  obtain⟨rfl,hp⟩:=lf.done hr
  exact hend a w g hp s l t hd
 intro fuel
 induction fuel with
 |zero=>
  intro listed L st a w g lf hu s l t hd
  have hr:Region.ready .any ops listed=[]:=by
   cases hr:Region.ready .any ops listed with
   |nil=>rfl
   |cons i _=>
    obtain⟨pre,F,post,o,e,_⟩:=lf.ready (i:=i) (by rw[hr]; simp)
    rw[e] at hu; simp at hu
  exact⟨hr,done listed L st a w g lf hr s l t hd⟩
 |succ fuel ih=>
  intro listed L st a w g lf hu s l t hd
  refine⟨fun hr=>done listed L st a w g lf hr s l t hd,fun i hi=>?_⟩
  obtain⟨o,x,v,h1,p,ho,hout,hpd,hnext,hstop⟩:=lf.step hE hi
  -- one step
  have step:∀(g':Gh) (w':World) (y:Value),x=.normal→St K h1 g' w'→Le K st.heap g w h1 g' w'→Rep h1 g' w' v y →
    wpAnyIn (FW ro) 0 P .any ops Q fuel (listed.setIfInBounds i true) (a.put o.dst y) w':=by
   intro g' w' y hx s2 l2 hr
   subst hx
   simp only[panD,Option.some.injEq] at hpd
   obtain⟨L',hl,lf'⟩:=hnext hpd.symm
   refine ih (listed.setIfInBounds i true) L' _ (a.put o.dst y) w' g' lf' (by omega) (by rw[appD_heap]; exact s2) (by rw[appD_heap]; exact l.trans l2) ?_ (by rw[put_defers]; exact hd)
   rw[appD_heap]
   have:TRep h1 g' w' ({ st with heap:=h1 }:AS).tmps a.tmps:=t.mono l2
   exact this.put o.dst hr
  have go:evT T env (rpOf ops.toList) (placeOf hb.length ops.toList i) o.op o.type st.ev st.heap=some (x,v,h1)→o.wpIn (FW ro) 0 P a w (wpAnyIn (FW ro) 0 P .any ops Q fuel (listed.setIfInBounds i true)) Q:=by
   intro hx
   refine evD_wp (K:=K) (g:=g) (n:=placeOf hb.length ops.toList i) (k:=fun x v s=>some (x,v,s.heap)) (r:=(x,v,h1)) hT hE s t hx ⟨fun v2 st2 g2 w2 y hkv htm s2 l2 hr=>?_,fun v2 u2 st2 g2 w2 y hkv htm s2 l2 hr=>?_⟩
   ·simp only[Option.some.injEq,Prod.mk.injEq] at hkv
    obtain⟨e1,e2,e3⟩:=hkv
    subst e2; subst e3
    exact step g2 w2 y e1.symm s2 l2 hr
   ·simp only[Option.some.injEq,Prod.mk.injEq] at hkv
    obtain⟨e1,e2,e3⟩:=hkv
    subst e1; subst e3
    simp only[panD,Option.some.injEq] at hpd
    obtain⟨q1,q2⟩:=hstop _ hpd.symm
    exact hpan _ { st with heap:=st2.heap } a w2 g2 y q1 (foldE_frame _ _ _ lf.fold).1 q2 s2 (l.trans l2) (t.mono l2) hd hr
  have skip:x=.normal→v=.undef→h1=st.heap→wpAnyIn (FW ro) 0 P .any ops Q fuel (listed.setIfInBounds i true) (a.put o.dst Go.undef) w:=by
   intro e0 e1 e2
   subst e1; subst e2
   exact step g w Go.undef e0 s .refl .undef
  unfold wpOpIn
  simp only[ho]
  unfold outD at hout
  split at hout
  ·rename_i hgd
   rw[if_pos (by simp[Region.wanted,hgd])]
   exact go hout
  ·rename_i j want hgd
   split at hout
   ·cases hout
   ·rename_i d hdd
    have hy:=yielded_some (a:=a) hdd
    have htg:=t.get d
    split at hout
    ·rename_i b hb'
     have hb':st.tmps.getD d .any=.bool b:=hb'
     rw[hb'] at htg
     rw[rep_bool htg] at hy
     simp only at hy
     split at hout
     ·rename_i hbw
      rw[if_pos (by simp[Region.wanted,hgd,hy,hbw])]
      exact go hout
     ·rename_i hbw
      rw[if_neg (by simp[Region.wanted,hgd,hy,hbw])]
      cases hout
      exact⟨fun _ _=>trivial,skip rfl rfl rfl⟩
    ·rename_i hb'
     have hb':st.tmps.getD d .any=.undef:=hb'
     rw[hb'] at htg
     have hu':a.tmps.getD d Go.undef=Go.undef:=by generalize a.tmps.getD d Go.undef=q at htg; cases htg; rfl
     rw[hu'] at hy
     rw[if_neg (by simp[Region.wanted,hgd,hy,Go.undef])]
     cases hout
     exact⟨fun _ _=>trivial,skip rfl rfl rfl⟩
    ·cases hout
theorem foldE_low (hE:EnvOk P env) {base:Nat}:∀(L:List En) (d d':DSt),foldE T env ops base L d=some d'→(∀e∈L,highB base e.2.1=true)→d'.1.heap.length=d.1.heap.length∧∀j,j<base→d'.1.heap[j]?=d.1.heap[j]?
 | [],d,d',h,_=>by simp only[foldE,Option.some.injEq] at h; rw[h]; exact⟨rfl,fun _ _=>rfl⟩
 |e::L,d,d',h,hh=>by
  simp only[foldE] at h
  cases hs:stepE T env ops base e d with
  |none=>rw[hs] at h; cases h
  |some t=>
   rw[hs] at h
   obtain⟨o,x,v,h1,p,i1,i2,i3,i4,rfl⟩:=stepE_some hs
   obtain⟨f1,f2⟩:=foldE_low hE L _ _ h fun e he=>hh e (List.mem_cons_of_mem _ he)
   have hhi:=hh e (List.mem_cons_self ..)
   obtain⟨i0,F,pn⟩:=e
   cases F with
   |none=>cases hhi
   |some q=>
    obtain⟨F,W⟩:=q
    have lc:=outD_local hE i2 i3
    rw[appD_heap] at f1 f2
    refine⟨f1.trans lc.len,fun j hj=>(f2 j hj).trans (lc.off j fun hm=>?_)⟩
    have:=List.all_eq_true.1 hhi j hm
    simp at this; omega
theorem region_draw_wp (hm:P.follows .mixedOrders=true) (hT:TabOk P T) (hE:EnvOk P env) (id:Nat) (k:AExit→AS→Option α) (ds:List Deferred) (st:AS) (a:Act) (w:World) (g:Gh) (c:CCont K st.heap g w ds k r Q)
  (hk:evRegion real T env ops st k=some r) (s:St K st.heap g w) (t:TRep st.heap g w st.tmps a.tmps) (hd:a.defers=ds):(Code.region id ops true).wpIn (FW ro) 0 P Q a w:=by
 unfold evRegion at hk
 generalize hidSet env st.heap.length ops.toList (waitsL ops.toList []) st=hh at hk
 replace hE:EnvOk P (env.withHid hh):=⟨hE.fs,hE.cv⟩
 revert hk hE
 generalize env.withHid hh=env
 intro hk hE
 obtain⟨L,s',pan',h1,h2,h0,h3,h4,h5,h6⟩:=draw_spec hE _ _ _ _ 0 _ none [] _ rfl hk
 have hb:Below w.heap.size w { w with drawn:=w.drawn+1 }:=⟨rfl,rfl,rfl,Nat.le_refl _,fun _ _=>rfl⟩
 have s1:=s.below hb g.M (fun _ h=>h) (fun _ h=>.inl h) s.low
 have l1:=le_below s hb g.M (fun _ h=>h) (fun _ h=>.inl h)
 obtain⟨g2,l2,s2⟩:=grow_free ((ops.toList.filter fun o=>isAlloc (rpOf ops.toList) o.op).length) _ _ s1
 have hall:unl ops (Array.replicate ops.size false)=List.range ops.size:=by
  unfold unl
  refine List.filter_eq_self.2 fun i hi=>?_
  have:=List.mem_range.1 hi
  simp[Array.getD_eq_getD_getElem?,this]
 have hlow:(∀e∈L,highB st.heap.length e.2.1=true)→s'.heap.length=st.heap.length+(ops.toList.filter fun o=>isAlloc (rpOf ops.toList) o.op).length∧s'.heap.take st.heap.length=st.heap:=fun hh=>by
  obtain⟨f1,f2⟩:=foldE_low hE L _ _ h1 hh
  refine⟨by rw[f1]; simp,List.ext_getElem? fun i=>?_⟩
  rw[List.getElem?_take]
  split
  ·rename_i hi
   rw[f2 i hi]
   simp only
   rw[List.getElem?_append_left hi]
  ·rename_i hi; rw[List.getElem?_eq_none (by omega)]
 have lf:Left T env ops st.heap ((ops.toList.filter fun o=>isAlloc (rpOf ops.toList) o.op).length) s' pan' (Array.replicate ops.size false) L { st with heap:=st.heap++List.replicate ((ops.toList.filter fun o=>isAlloc (rpOf ops.toList) o.op).length) .free }:={
  size:=by simp
  closed:=fun i o ho hl=>by
   simp[Array.getD_eq_getD_getElem?,Array.getElem?_replicate] at hl
   split at hl<;>simp at hl
  fold:=h1
  pans:=fun ps u e j hj=>by
   rcases h0.2 ps u e j hj with h|⟨_,_,e,_⟩
   ·exact h
   ·cases e
  map:=by rw[h4,hall,List.range_eq_range']; simp
  edge:=fun e he=>let ⟨o,a,b,_⟩:=h5 e he; ⟨o,a,b⟩
  pair:=h6
  high:=by
   cases pan' with
   |none=>exact .inl rfl
   |some q=>
    rcases (h3.1 q rfl).2 with ⟨_,h⟩|⟨p0,u0,rfl,_,h⟩
    ·exact .inr (.inl ⟨h,⟨by simp,fun i hi=>by simp only; rw[List.getElem?_append_left hi]⟩,hlow h⟩)
    ·refine .inr (.inr ?_)
     rcases h0.2 [p0] u0 rfl p0 (List.mem_cons_self ..) with ⟨e,he,hp,hf⟩|⟨_,_,e,_⟩
     ·refine⟨e,he,hf,fun e' he'=>?_⟩
      rw[hp]
      rcases h e' he' with h|h
      ·exact .inl h
      ·by_cases hpe:e'.1=p0
       ·exact .inl hpe
       ·refine .inr ⟨h,?_⟩
        cases hfl:e'.2.2 with
        |false=>rfl
        |true=>
         obtain⟨ps,u,e1,e2⟩:=h3.2 e' he' hfl
         cases e1
         exact absurd (by simpa using e2) hpe
     ·cases e }
 have hlen:L.length≤ops.size:=by
  have:(L.map (·.1)).length≤ops.size:=by
   rw[h4]
   refine Nat.le_trans (List.length_filter_le _ _) ?_
   simp
  simpa using this
 refine wpIn_region_any hm (any_wp hT hE (h0:=st.heap) (g0:=g) (w0:=w) ds (fun a' w' g' hp q1 q2 q3 q4=>?_) (fun q st' a' w' g' x hp q0 q12 q3 q4 q5 q6 q7=>?_) ops.size _ L _ a _ g2 lf hlen s2 (l1.trans l2) (t.mono (l1.trans l2)) hd)
 ·subst hp
  have al:=unfree_alike s'.heap
  exact c.on .normal { s' with heap:=s'.heap.map unfreeB } g' a' w' .normal h2 (al.st q1) (unfree_le q2) (al.trep q3) q4 trivial
 ·rw[hp] at h2
  have fin:Alike st'.heap (s'.heap.take st.heap.length++List.replicate (s'.heap.length-st.heap.length) .dead)∧Le K st.heap g w (s'.heap.take st.heap.length++List.replicate (s'.heap.length-st.heap.length) .dead) g' w':=by
   rcases q12 with ⟨⟨q1,q2⟩,q3',q4'⟩|q
   ·have e:s'.heap.length-st.heap.length=(ops.toList.filter fun o=>isAlloc (rpOf ops.toList) o.op).length:=by omega
    rw[q4',e]
    exact⟨back_alike q1 q2,back_le q1 q2 q4⟩
   ·rw[←q] at q4 ⊢
    have hl:=q4.len
    refine⟨back_alike (by rw[List.length_take]; omega) fun i hi=>?_,back_le2 (by omega) (Nat.le_refl _) q4⟩
    rw[List.length_take] at hi
    rw[List.getElem?_take,if_pos (by omega)]
  refine c.on (.pan q) _ g' a' w' _ h2 (fin.1.st q3) fin.2 ⟨?_,fun j c x hc _=>?_⟩ q6 ⟨_,rfl,fin.1.rep q7⟩
  ·simp only[List.length_map]
   have e1:=(foldE_frame L _ _ h1).1
   simp only at e1
   exact (e1.symm.trans q0).trans q5.1
  ·simp only[List.getElem?_map] at hc
   cases hx:st.tmps[j]? with
   |none=>rw[hx] at hc; cases hc
   |some b=>rw[hx] at hc; cases hc; exact .any _
end
def WpB (b:Frame) (P:Program) (c:Code) (Q:Exit→Act→World→Prop) (a:Act) (w:World):Prop:=
 ∀k cs,∃e a' w',Q e a' w'∧ArrivesIn (Machine.fenced P (FW none)) P (lone (b.atR a (.code c::k)) cs w) b k cs e a' w'
theorem one_step {P:Program} {m m':Machine} (h:step P m=.next m'):StepsIn (Machine.fenced P (FW none)) P m m':=.one (fenced_wide P m) h
section
variable {b:Frame} {P:Program} {Q:Exit→Act→World→Prop} {a:Act} {w:World}
theorem wpB_of {c:Code} (h:c.wpIn (FW b.roundOf) 0 P Q a w):WpB b P c Q a w:=fun k cs=>h b k cs rfl trivial fun _ h=>by cases h
theorem wpB_seq {x y:Code} (h:WpB b P x (Exit.then (WpB b P y Q) Q) a w):WpB b P (.seq x y) Q a w:=by
 intro k cs
 have s0:StepsIn (Machine.fenced P (FW none)) P (lone (b.atR a (.code (.seq x y)::k)) cs w) (lone (b.atR a (.code x::.code y::k)) cs w):=one_step stepR_seq
 obtain⟨e,a1,w1,hq,ha⟩:=h (.code y::k) cs
 cases e with
 |normal=>
  obtain⟨e2,a2,w2,hq2,ha2⟩:=hq k cs
  exact⟨e2,a2,w2,hq2,.of_steps (s0.trans ha) ha2⟩
 |_=>exact⟨_,a1,w1,hq,.of_steps s0 (.pass (x:=.code y) rfl (fun _ _=>.inl (by simp)) ha)⟩
theorem wpB_cond {o:Operand} {x y:Code} {t:Bool} (hc:a.eval o=.bool t) (h:WpB b P (if t then x else y) Q a w):WpB b P (.cond o x y) Q a w:=fun k cs=>
 let ⟨e,a',w',q,r⟩:=h k cs
 ⟨e,a',w',q,.of_steps (one_step (stepR_cond hc)) r⟩
theorem wpB_block {id:Nat} {x:Code} (h:WpB b P x (Exit.inBlock id Q) a w):WpB b P (.block id x) Q a w:=by
 intro k cs
 have s0:StepsIn (Machine.fenced P (FW none)) P (lone (b.atR a (.code (.block id x)::k)) cs w) (lone (b.atR a (.code x::.inBlock id::k)) cs w):=one_step stepR_block
 obtain⟨e,a1,w1,hq,ha⟩:=h (.inBlock id::k) cs
 cases e with
 |normal=>exact⟨.normal,a1,w1,hq,s0.trans (StepsIn.trans ha (one_step stepR_inBlock))⟩
 |exit j=>
  by_cases hj:j=id
  ·simp only[Exit.inBlock,hj,if_true] at hq
   exact⟨.normal,a1,w1,hq,s0.trans (ha.1 k (by simp[exitTo,hj]))⟩
  ·simp only[Exit.inBlock,hj,if_false] at hq
   have hx:exitTo j (.inBlock id::k)=exitTo j k:=by
    have:(id==j)=false:=by simpa using fun e=>hj e.symm
    simp[exitTo,this]
   exact⟨.exit j,a1,w1,hq,fun k' hk=>s0.trans (ha.1 k' (hx.trans hk)),fun hr hk=>let ⟨k1,h1,h2⟩:=ha.2 hr (hx.trans hk); ⟨k1,h1,s0.trans h2⟩⟩
 |goto l=>
  have hx:gotoIn l (.inBlock id::k)=gotoIn l k:=by simp[gotoIn]
  exact⟨_,a1,w1,hq,fun k' hk=>s0.trans (ha.1 k' (hx.trans hk)),fun hr hk=>let ⟨k1,h1,h2⟩:=ha.2 hr (hx.trans hk); ⟨k1,h1,s0.trans h2⟩⟩
 |_=>exact⟨_,a1,w1,hq,.of_steps s0 ha⟩
def RoundsB (b:Frame) (P:Program) (c:Code) (Q:Exit→Act→World→Prop):Nat→Act→World→Prop
 |0,_,_=>False
 |m+1,a,w=>WpB b P c (Exit.then (RoundsB b P c Q m) Q) a w
theorem wpB_loop {c:Code} (m:Nat) (h:RoundsB b P c Q m a w):WpB b P (.loop c) Q a w:=by
 intro k cs
 have key:∀m a w,RoundsB b P c Q m a w→∃e a' w',Q e a' w'∧ArrivesIn (Machine.fenced P (FW none)) P (lone (b.atR a (.code c::.inLoop c::k)) cs w) b k cs e a' w':=by
  intro m
  induction m with
  |zero=>intro a w h; exact h.elim
  |succ m ih=>
   intro a w h
   obtain⟨e,a1,w1,hq,ha⟩:=h (.inLoop c::k) cs
   cases e with
   |normal=>
    obtain⟨e2,a2,w2,hq2,ha2⟩:=ih a1 w1 hq
    exact⟨e2,a2,w2,hq2,.of_steps (StepsIn.trans ha (one_step stepR_inLoop)) ha2⟩
   |_=>exact⟨_,a1,w1,hq,.pass (x:=.inLoop c) rfl (fun _ _=>.inl (by simp)) ha⟩
 obtain⟨e,a',w',hq,ha⟩:=key m a w h
 exact⟨e,a',w',hq,.of_steps (one_step stepR_loop) ha⟩
theorem wpB_scope {c:Code} (h:WpB b P c (Exit.noGoto Q) a w):WpB b P (.scope c) Q a w:=by
 intro k cs
 have s0:StepsIn (Machine.fenced P (FW none)) P (lone (b.atR a (.code (.scope c)::k)) cs w) (lone (b.atR a (.code c::.inScope c::k)) cs w):=one_step (step_lone_go (by simp[Go.stepG,Go.stepG.exec,Frame.atR]))
 have s1:∀a w,StepsIn (Machine.fenced P (FW none)) P (lone (b.atR a (.inScope c::k)) cs w) (lone (b.atR a k) cs w):=fun a w=>one_step (step_lone_go (by simp[Go.stepG,Go.stepG.exec,Frame.atR]))
 obtain⟨e,a1,w1,hq,ha⟩:=h (.inScope c::k) cs
 cases e with
 |normal=>exact⟨.normal,a1,w1,hq,s0.trans (StepsIn.trans ha (s1 _ _))⟩
 |exit id=>
  have hx:exitTo id (.inScope c::k)=exitTo id k:=by simp[exitTo]
  exact⟨.exit id,a1,w1,hq,fun k' hk=>s0.trans (ha.1 k' (hx.trans hk)),fun hr hk=>let ⟨k1,h1,h2⟩:=ha.2 hr (hx.trans hk); ⟨k1,h1,s0.trans h2⟩⟩
 |goto l=>exact hq.elim
 |_=>exact⟨_,a1,w1,hq,.of_steps s0 ha⟩
def RangePostB (b:Frame) (P:Program) (l:Nat) (Q:Exit→Act→World→Prop) (a':Act):Ending→World→Prop
 |.returned _,w3=>∃jump w4,(Instr.endLoop l).run P w3=.ok jump w4∧match (generalizing:=false) jump with
   |none=>Q .normal a' w4
   |some c=>WpB b P c Q a' w4
 |.panicked chain,w3=>Q (.panic chain) a' w3
 |.outgrown,_=>LetsOut Q
theorem wpB_range {f:Operand} {ps:Array Tmp} {asg bo:Code}
  (h:∃(l:Nat) (mark:List Deferred) (w1:World) (d:Deferred) (w1':World) (fid:FuncId) (args:Array Value) (w2:World),
   (Instr.enterLoop b.fn a.tmps ps asg bo b.roundOf).run P w=.ok (l,mark) w1∧(resolve a.eval (rangeCall f l) 0).run P w1=.ok d w1'∧(invoke d.target d.args).run P w1'=.ok (.enter fid args) w2 ∧
   Calls P fid args w2 (RangePostB b P l Q { a with defers:=mark++a.defers })):WpB b P (.rangeFunc f ps asg bo) Q a w:=by
 intro k cs
 obtain⟨l,mark,w1,d,w1',fid,args,w2,he,hres,hinv,hcall⟩:=h
 have s0:=one_step (stepR_rangeFunc (P:=P) (b:=b) (a:=a) (k:=k) (cs:=cs) (w:=w) he hres hinv)
 obtain⟨e,w3,fr,hR,hs,hfn,hl⟩:=(callsIn_of (ro:=none) (n:=0) hcall).2 (b.atR { a with defers:=mark++a.defers } (.inRangeFunc l::k)::cs) fun _ h=>by cases h
 cases e with
 |outgrown=>
  obtain⟨a0,w0,hq⟩:=hR
  exact⟨.outgrown,a0,w0,hq,.inr (Outgrown.of_steps s0.steps hs)⟩
 |returned v=>
  obtain⟨jump,w4,hend,hj⟩:=hR
  have sb:StepsIn (Machine.fenced P (FW none)) P (lone (b.atR a (.code (.rangeFunc f ps asg bo)::k)) cs w) (lone (b.atR { a with defers:=mark++a.defers } ((jump.map Item.code).toList++k)) cs w4):=by
   refine s0.trans (StepsIn.trans hs (StepsIn.trans (one_step ?_) (one_step (stepR_endRangeFunc hend))))
   rw[←finish_atR_inRangeFunc l v]; exact step_leave_returned hl
  cases jump with
  |none=>exact⟨.normal,_,w4,hj,sb⟩
  |some c=>
   obtain⟨e',a'',w5,hq,ha⟩:=hj k cs
   exact⟨e',a'',w5,hq,.of_steps sb ha⟩
 |panicked chain=>
  refine⟨.panic chain,_,w3,hR,.inRangeFunc l::k,s0.trans (StepsIn.trans hs (one_step ?_))⟩
  rw[←Frame.raise_atR]; exact step_leave_panicked hl
end
section
variable {P:Program}
theorem calls_of_wpB {f:FuncId} {fn:Func} {c:Code} {args:Array Value} {w:World} {R:Ending→World→Prop} (hf:P.funcs[f]?=some fn) (hb:fn.body=some c)
  (h:∀b:Frame,b.fn=f→b.roundOf=none→WpB b P c (bodyPostM (FW none) 0 P fn R) { tmps:=args++Array.replicate (fn.ntmps-args.size) Go.undef,defers:=[] } w):Calls P f args w R:=by
 refine calls_of ⟨trivial,fun cs hr=>?_⟩
 let b:Frame:={ (default:Frame) with fn:=f,kind:=.normal,roundOf:=none }
 have henter:Frame.enter P f args .normal=b.atR { tmps:=args++Array.replicate (fn.ntmps-args.size) Go.undef,defers:=[] } [.code c]:=by
  simp[Frame.enter,Frame.atR,hf,hb,b]
 obtain⟨e,a',w',hq,ha⟩:=h b rfl rfl [] cs
 rw[←henter] at ha
 cases e with
 |normal=>
  obtain⟨e',w2,fr',hR,hs,hfn,hl⟩:=leaves_stepsInM (F:=FW none) (n:=0) a'.defers .returning w' { b.atR a' [] with mode:=.returning } cs rfl rfl rfl hf rfl trivial hr hq
  exact⟨e',w2,fr',hR,ComesIn.of_steps (StepsIn.trans ha (one_step (stepR_end rfl))) hs,hfn,hl⟩
 |ret=>
  obtain⟨todo,h0⟩:=ha.1 rfl
  obtain⟨e',w2,fr',hR,hs,hfn,hl⟩:=leaves_stepsInM (F:=FW none) (n:=0) a'.defers .returning w' { b.atR a' todo with mode:=.returning } cs rfl rfl rfl hf rfl trivial hr hq
  exact⟨e',w2,fr',hR,ComesIn.of_steps h0 hs,hfn,hl⟩
 |panic chain=>
  obtain⟨todo,h0⟩:=ha
  obtain⟨e',w2,fr',hR,hs,hfn,hl⟩:=leaves_stepsInM (F:=FW none) (n:=0) a'.defers (.panicking chain) w' { b.atR a' todo with mode:=.panicking chain } cs rfl rfl rfl hf rfl trivial hr hq
  exact⟨e',w2,fr',hR,ComesIn.of_steps h0 hs,hfn,hl⟩
 |exit id=>exact hq.elim
 |goto l=>exact hq.elim
 |outgrown=>exact⟨.outgrown,w',b,hq,ha.resolve_left (by simp[b]),rfl,trivial⟩
def RoundPostB (P:Program) (l:Nat) (R:Ending→World→Prop):Exit→Act→World→Prop
 |.panic chain,a,w=>a.defers=[]∧R (.panicked chain) w
 |e,a,w=>roundPost P l R e a w
theorem round_of_wpB {l:Nat} {f:FuncId} {fn:Func} {tmps:Array Value} {asg bo:Code} {w:World} {R:Ending→World→Prop} (hf:P.funcs[f]?=some fn)
  (h:∀b:Frame,b.fn=f→b.roundOf=some l→WpB b P asg (Exit.then (fun a1 w1=>∃w2,(Instr.beginRound l).run P w1=.ok () w2∧WpB b P bo (RoundPostB P l R) a1 w2) fun _ _ _=>False) { tmps:=tmps,defers:=[] } w) :
  RoundIn (FW none) 0 P l f tmps asg bo w R:=by
 refine⟨trivial,fun c cs hr=>?_⟩
 let b:Frame:={ (default:Frame) with fn:=f,kind:=.normal,roundOf:=some l }
 have hb0:Frame.round l f tmps asg bo .normal=b.atR { tmps:=tmps,defers:=[] } [.code asg,.beginRound,.code bo]:=by
  simp[Frame.round,Frame.atR,b]
 obtain⟨e,a1,w1,hq,ha⟩:=h b rfl rfl [.beginRound,.code bo] (c::cs)
 rw[←hb0] at ha
 cases e with
 |normal=>
  obtain⟨w2,hbr,hbody⟩:=hq
  have s1:StepsIn (Machine.fenced P (FW none)) P (lone (Frame.round l f tmps asg bo .normal) (c::cs) w) (lone (b.atR a1 [.code bo]) (c::cs) w2):=StepsIn.trans ha (one_step (stepR_beginRound rfl hbr))
  obtain⟨e2,a2,w3,hq2,ha2⟩:=hbody [] (c::cs)
  cases e2 with
  |normal=>
   obtain⟨v,w4,hend,hR⟩:=hq2
   exact⟨.returned v,w4,hR,s1.trans (StepsIn.trans ha2 (one_step (stepR_round_end rfl rfl hend)))⟩
  |ret=>
   obtain⟨v,w4,hend,hR⟩:=hq2
   obtain⟨k1,hs⟩:=ha2.2 rfl
   exact⟨.returned v,w4,hR,s1.trans (StepsIn.trans hs (one_step (stepR_round_ret rfl rfl hend)))⟩
  |exit id=>
   obtain⟨v,w4,hend,hR⟩:=hq2
   obtain⟨k1,hk,hs⟩:=ha2.2 rfl rfl
   exact⟨.returned v,w4,hR,s1.trans (StepsIn.trans hs (one_step (stepR_round_exit rfl rfl hk hend)))⟩
  |goto t=>
   obtain⟨v,w4,hend,hR⟩:=hq2
   obtain⟨k1,hk,hs⟩:=ha2.2 rfl rfl
   exact⟨.returned v,w4,hR,s1.trans (StepsIn.trans hs (one_step (stepR_round_goto rfl rfl hk hend)))⟩
  |panic chain=>
   obtain⟨hd,hR⟩:=hq2
   obtain⟨todo,hs⟩:=ha2
   refine⟨.panicked chain,w3,hR,s1.trans (StepsIn.trans hs (one_step (step_leave_panicked ⟨rfl,hd,fn,hf⟩)))⟩
  |outgrown=>exact hq2.elim
 |_=>exact hq.elim
end
theorem heldB_spec {s:AS}:∀(l:List (Nat × Nat)),heldB s l=true→∀p∈l,s.get p.1=.own p.2
 | [],_,p,hp=>by simp at hp
 |(t,i)::r,h,p,hp=>by
  simp only[heldB] at h
  split at h
  ·rename_i j hj
   simp only[Bool.and_eq_true,beq_iff_eq] at h
   rcases List.mem_cons.1 hp with e|e
   ·subst e; rw[hj,h.1]
   ·exact heldB_spec r h.2 p e
  ·cases h
theorem heldOf_mem {skip:List Nat} {i:Nat}:∀(ts:List AVal) (n m:Nat),ts[m]?=some (.own i)→n+m ∉ skip→(n+m,i)∈heldOf skip ts n
 | [],n,m,h,_=>by simp at h
 |v::r,n,m,h,hs=>by
  cases m with
  |zero=>
   simp only[List.getElem?_cons_zero,Option.some.injEq] at h
   subst h
   have:n ∉ skip:=by simpa using hs
   simp[heldOf,this]
  |succ m=>
   have ih:=heldOf_mem r (n+1) m (by simpa using h) (by rwa [Nat.add_assoc,Nat.add_comm 1 m])
   rw[Nat.add_assoc,Nat.add_comm 1 m] at ih
   cases v<;>simp only[heldOf]<;>first
    |exact ih
    |(cases skip.contains n
      ·exact List.mem_cons_of_mem _ ih
      ·exact ih)
theorem ex_held {L:LoopAt} {s:AS} {y:L.ty} (hx:L.ex s=some y):heldB s L.held=true:=by
 unfold LoopAt.ex at hx
 split at hx
 ·rename_i hc; exact hc.1.1
 ·cases hx
section
variable {imp:Bool} {only:Option (List Nat)} {K:Nat→Prop} {L:LoopAt} {s s':AS} {g g':Gh} {w w':World} {a a':Act} {c:Code}
theorem owns_row {h:List ABlk} {ks:List Kd} {vs:List AVal} {y:Kds.ty ks} (h4:exKs h ks vs=some y):∀j,j∈ownsIn ks vs→∃t e,∃xs:List e.ty,h[j]?=some (.row true t e xs):=fun j hj=>by
 rw[ownsIn_eq,List.mem_filterMap] at hj
 obtain⟨o,ho,e⟩:=hj
 simp only[id] at e
 subst e
 obtain⟨q,hq⟩:=List.mem_iff_getElem?.1 ho
 obtain⟨t,e,xs,_,a2⟩:=(rows_at _ _ _ _ h4).2 q _ hq
 rcases a2 with ⟨i,b1,b2⟩|⟨b1,_⟩
 ·cases b1; exact⟨t,e,xs,b2⟩
 ·cases b1
theorem at_entry {x0:L.ty} (hL:loopAt imp only s c=some L) (hx:L.ex s=some x0) (hs:St K s.heap g w) (ht:TRep s.heap g w s.tmps a.tmps):AtEnd K L s s g w a:=by
 obtain⟨_,_,_,ho,hz,_⟩:=loopAt_spec hL
 obtain⟨_,_,h3,h4⟩:=ex_parts hx
 refine⟨hs,ht,rfl,fun _ _ _=>rfl,Nat.le_refl _,fun i b hb hd h1 h2 _=>.inr ⟨hb,by rw[←ho]; exact h1,by rw[hz]; simp⟩,fun i b hb hl hd=>⟨fun hm=>?_,fun n hm=>?_,fun p hp e=>?_⟩,fun t c hc=>?_,fun i wr cs hb j c hc=>?_,fun i st pend ts ps aw bo hb j c hc=>?_⟩
 ·rw[ho] at hm
  obtain⟨t,e,xs,hr⟩:=owns_row h4 i hm
  rw[hb] at hr; cases hr; exact lockB_row hl
 ·have:=boxAt_get (h3 _ hm).1
  rw[hb] at this; cases this; cases hl
 ·obtain⟨t,e',xs,hr⟩:=ex_rws hx p hp
  rw[e,hb] at hr; cases hr; exact lockB_row hl
 ·have hlt:t<a.tmps.size:=by have:=(List.getElem?_eq_some_iff.1 hc).1; rw[←ht.1]; exact this
  exact (ht.2 t c _ hc (Array.getElem?_eq_getElem hlt)).bd
 ·obtain⟨b,arr,t,_,_,h5,h6⟩:=hs.blk i _ hb
  have hlt:j<arr.size:=by have:=(List.getElem?_eq_some_iff.1 hc).1; omega
  exact (h6 j c _ hc (Array.getElem?_eq_getElem hlt)).2.bd
 ·obtain⟨l,arr,fn,D,_,_,h5,h6,_⟩:=hs.blk i _ hb
  have hlt:j<arr.size:=by have:=(List.getElem?_eq_some_iff.1 hc).1; omega
  exact (h6 j c _ hc (Array.getElem?_eq_getElem hlt)).bd
theorem at_round {K1 K2:Nat→Prop} {x0 x y:L.ty} {e:AExit} {g1:Gh} {w1:World} (hL:loopAt imp only s c=some L) (hx:L.ex s=some x0) (A0:AtEnd K L s s g w a)
  (hl:Le K1 (L.state s true x).heap g1 w1 s'.heap g' w') (hf:Fr (dstsOf c) (L.state s true x) e s') (he:e=.normal∨∃id,e=.exit id) (hy:L.ex s'=some y)
  (hs:St K2 s'.heap g' w') (ht:TRep s'.heap g' w' s'.tmps a'.tmps):AtEnd K2 L s s' g' w' a':=by
 obtain⟨hd,_,hh,_,_,hlps⟩:=loopAt_spec hL
 refine⟨hs,ht,hf.len.trans state_tlen,fun t h1 h2=>?_,Nat.le_trans (by rw[state_len]; omega) hl.len,fun i b hb hb' h1 h2 h3=>.inl ?_,A0.lock0,A0.bds,A0.bdh,A0.bdl⟩
 ·by_cases ho:∃i,s.tmps[t]?=some (.own i)
  ·obtain⟨i,hi⟩:=ho
   have hm:(t,i)∈L.held:=by
    rw[hh]
    have:=heldOf_mem (skip:=L.dsts++L.slots) s.tmps 0 t hi (by simp[h1,h2])
    rwa [Nat.zero_add] at this
   rw[hi]
   exact get_eq (heldB_spec _ (ex_held hy) _ hm) (by simp)
  ·rw[hf.on he t (by rw[hd,mem_dedup] at h1; exact h1) fun i hi=>ho ⟨i,by rwa [state_other h1 h2] at hi⟩,state_other h1 h2]
 ·have hk:=state_kept L s true x i b hb h1 h2 h3
  simp only[cond_true] at hk
  cases b with
  |dead=>exact absurd rfl hb'
  |box wr cs=>exact hl.lockb i cs hk
  |row wr t e xs=>exact hl.lockr i t e xs hk
  |free=>exact absurd hb (lpsOf_free _ _ _ hlps i)
  |lp st pend ts ps aw bo=>
   obtain⟨e1,hm⟩:=lpsOf_spec _ _ _ hlps i st pend ts ps aw bo hb
   subst e1
   rw[Nat.zero_add] at hm
   obtain⟨_,_,_,_,_,hlp,_⟩:=ex_all hy
   obtain⟨ts',ps',as',bo',hq⟩:=lpsB_get hlp hm
   obtain⟨_,_,h4,_⟩:=hl.lp i _ _ _ _ _ _ (.of hk (by simp[lockB])) hq
   rw[hk] at h4
   cases h4
   exact hq
end
def MRep (K0 K:Nat→Prop) (g:Gh) (w:World) (ds:List Deferred):Prop:=
 ∃rs:List Nat,rs.Nodup∧ds=rs.map (fun r=>({ target:=.collected r,args:=#[] }:Deferred))∧∀r∈rs,K r∧¬K0 r∧¬g.M r∧w.heap[r]?=some (.deferred (some []))
theorem MRep.nil {K0 K g w}:MRep K0 K g w []:=⟨[],List.nodup_nil,rfl,fun r hr=>by simp at hr⟩
theorem MRep.mono {K0 K h g w h' g' w'} {ds:List Deferred} (m:MRep K0 K g w ds) (l:Le K h g w h' g' w'):MRep K0 K g' w' ds:=by
 obtain⟨rs,h1,h2,h3⟩:=m
 refine⟨rs,h1,h2,fun r hr=>?_⟩
 obtain⟨a,b,c,d⟩:=h3 r hr
 exact⟨a,b,fun hm=>(l.new r hm).elim c fun hn=>hn a,(l.k r a).trans d⟩
theorem MRep.more {K0 K K' g w} {ds:List Deferred} (m:MRep K0 K g w ds) (hk:∀b,K b→K' b):MRep K0 K' g w ds:=by
 obtain⟨rs,h1,h2,h3⟩:=m
 exact⟨rs,h1,h2,fun r hr=>let ⟨a,b,c,d⟩:=h3 r hr; ⟨hk r a,b,c,d⟩⟩
theorem AtEnd.mr {K0 K:Nat→Prop} {L:LoopAt} {s s':AS} {g':Gh} {w':World} {a':Act} {z:L.ty} {ds:List Deferred} (A:AtEnd K L s s' g' w' a') (hx:L.ex s'=some z) (m:MRep K0 K g' w' ds):MRep K0 K (L.gh s s' g') w' ds:=by
 obtain⟨rs,h1,h2,h3⟩:=m
 exact⟨rs,h1,h2,fun r hr=>let ⟨a,b,c,d⟩:=h3 r hr; ⟨a,b,fun hm=>(A.new hx r hm).elim c fun h=>h a,d⟩⟩
structure Done (K0 K:Nat→Prop) (h0:List ABlk) (g0:Gh) (w0:World) (x1:AExit) (s1:AS) (Q:Exit→Act→World→Prop):Prop where
 on:∀K' g' (a':Act) w' e,(∀b,K b→K' b)→St K' s1.heap g' w'→Le K h0 g0 w0 s1.heap g' w'→TRep s1.heap g' w' s1.tmps a'.tmps→MRep K0 K' g' w' a'.defers→XR s1.heap g' w' x1 e→Q e a' w'
theorem xr_normal {h g w e} (r:XR h g w .normal e):e=.normal:=by cases e<;>first|rfl|cases r
theorem xr_ret {h g w e} (r:XR h g w .ret e):e=.ret:=by cases e<;>first|rfl|cases r
theorem xr_exit {h g w i e} (r:XR h g w (.exit i) e):e=.exit i:=by
 cases e<;>first|cases r
 rfl
theorem xr_pan {h g w v e} (r:XR h g w (.pan v) e):∃c,e=.panic c:=by
 cases e<;>first|exact⟨_,rfl⟩|cases r
theorem xr_alike {h h2 g w x e} (a:Alike h h2) (r:XR h g w x e):XR h2 g w x e:=by
 cases x with
 |pan v=>
  cases e with
  |panic c=>
   obtain⟨u,h1,h3⟩:=r
   exact⟨u,h1,a.rep h3⟩
  |_=>exact r
 |_=>cases e<;>exact r
section
variable {b:Frame} {P:Program} {T:Tab} {env:Env} {K0:Nat→Prop}
theorem range_wp (hE:EnvOk P env) (hro:b.roundOf=none) (hx:FnIn b.fn) {K:Nat→Prop} {f:Operand} {ps:Array Tmp} {asg bo:Code} {s:AS} {x1:AExit} {s1:AS} {a:Act} {w:World} {g:Gh} {Q:Exit→Act→World→Prop} (hK0:∀b,K0 b→K b)
  (h:(match s.ev f with
   |.fn fid caps=>
    env.cv (AExit × AS) (.fn fid caps) [.yld s.heap.length] (s.heap++[.lp .ready none s.tmps ps.toList asg bo]) fun x _ h=>
     match x with
     |.normal=>
      match h.getD s.heap.length .dead with
      |.lp .busy _ _ _ _ _=>none
      |.lp _ none _ _ _ _=>pairE .normal { s with heap:=h.set s.heap.length .dead }
      |.lp _ (some .ret) _ _ _ _=>pairE .ret { s with heap:=h.set s.heap.length .dead }
      |.lp _ (some (.exit id)) _ _ _ _=>pairE (.exit id) { s with heap:=h.set s.heap.length .dead }
      |_=>none
     |.pan v=>pairE (.pan v) { s with heap:=h.set s.heap.length .dead }
     |_=>none
   |_=>none)=some (x1,s1))
  (hs:St K s.heap g w) (ht:TRep s.heap g w s.tmps a.tmps) (hd:MRep K0 K g w a.defers) (D:Done K0 K s.heap g w x1 s1 Q):WpB b P (Code.rangeFunc f ps asg bo) Q a w:=by
 split at h
 case h_2=>cases h
 rename_i fid caps hf
 rw[hE.cv.nat] at h
 cases hq:env.cv _ (.fn fid caps) [.yld s.heap.length] (s.heap++[.lp .ready none s.tmps ps.toList asg bo]) tripE with
 |none=>rw[hq] at h; cases h
 |some p=>
  obtain⟨x,u,h2⟩:=p
  rw[hq] at h
  simp only[Option.bind_some] at h
  have hfr:=ht.ev f
  rw[hf] at hfr
  refine wpB_range ?_
  rw[hro]
  generalize b.fn=fn at hx ⊢
  have hen:=run_enterLoop_outer (P:=P) (w:=w) fn a.tmps ps asg bo
  -- the two blocks
  have hbA:Below w.heap.size w (w.alloc (.deferred (some []))):=(Below.refl _ _).alloc (Nat.le_refl _) _
  have hdA:(w.alloc (.deferred (some []))).heap[w.heap.size]?=some (.deferred (some [])):=World.alloc_heap_new w _
  have hszA:(w.alloc (.deferred (some []))).heap.size=w.heap.size+1:=by simp
  have hbB:Below (w.alloc (.deferred (some []))).heap.size (w.alloc (.deferred (some []))) ((w.alloc (.deferred (some []))).alloc (.loop { state:=.ready,pending:=none,fn,tmps:=a.tmps,params:=ps,assign:=asg,body:=bo,defers:=w.heap.size })):=(Below.refl _ _).alloc (Nat.le_refl _) _
  have hlB:((w.alloc (.deferred (some []))).alloc (.loop { state:=.ready,pending:=none,fn,tmps:=a.tmps,params:=ps,assign:=asg,body:=bo,defers:=w.heap.size })).heap[w.heap.size+1]?=some (.loop { state:=.ready,pending:=none,fn,tmps:=a.tmps,params:=ps,assign:=asg,body:=bo,defers:=w.heap.size }):=by
   have:=World.alloc_heap_new (w.alloc (.deferred (some []))) (.loop { state:=.ready,pending:=none,fn,tmps:=a.tmps,params:=ps,assign:=asg,body:=bo,defers:=w.heap.size })
   rwa [hszA] at this
  generalize hwA:w.alloc (.deferred (some []))=wA at *
  generalize hwB:wA.alloc (.loop { state:=.ready,pending:=none,fn,tmps:=a.tmps,params:=ps,assign:=asg,body:=bo,defers:=w.heap.size })=wB at *
  have hszB:wB.heap.size=w.heap.size+2:=by rw[←hwB]; simp[hszA]
  -- the state with the mark
  have lA:=le_below hs hbA g.M (fun _ h=>h) (fun _ h=>.inl h)
  have sA0:=hs.below hbA g.M (fun _ h=>h) (fun _ h=>.inl h) (fun b h=>Nat.lt_of_lt_of_le (hs.low b h) hbA.size)
  have sA:St (fun b=>K b∨b=w.heap.size) s.heap g wA:=⟨sA0.blk,sA0.inj,fun i b ha hb=>by
   obtain⟨h1,h2,h3⟩:=hs.sep i b ha hb
   exact⟨fun h=>h.elim h1 fun e=>Nat.lt_irrefl _ (e▸h3),h2,Nat.lt_of_lt_of_le h3 hbA.size⟩,sA0.low,fun b hb=>hb.elim (sA0.klow b) fun e=>by rw[e,hszA]; omega⟩
  have mA:MRep K0 (fun b=>K b∨b=w.heap.size) g wA ({ target:=.collected w.heap.size,args:=#[] }::a.defers):=by
   obtain⟨rs,r1,r2,r3⟩:=hd.mono lA
   refine⟨w.heap.size::rs,List.nodup_cons.2 ⟨fun hm=>Nat.lt_irrefl _ (hs.klow _ (r3 _ hm).1),r1⟩,by rw[r2]; rfl,fun r hr=>?_⟩
   rcases List.mem_cons.1 hr with e|e
   ·subst e
    exact⟨.inr rfl,fun hk=>Nat.lt_irrefl _ (hs.klow _ (hK0 _ hk)),fun hm=>Nat.lt_irrefl _ (hs.low _ hm),hdA⟩
   ·obtain⟨q1,q2,q3,q4⟩:=r3 r e
    exact⟨.inl q1,q2,q3,q4⟩
  have lB:Le (fun b=>K b∨b=w.heap.size) s.heap g wA (s.heap++[.lp .ready none s.tmps ps.toList asg bo]) (g.at s.heap.length (.func (.yield (w.heap.size+1)) #[] #[])) wB:=le_grow sA _ _ hbB
  have sB:=sA.grow (.lp .ready none s.tmps ps.toList asg bo) (.func (.yield (w.heap.size+1)) #[] #[]) lB (fun i n ai hn=>hbB.block n (sA.sep i n ai hn).2.2)
   ⟨w.heap.size+1,a.tmps,fn,w.heap.size,g.at_same _ _,by simpa using hlB,ht.1.symm,fun j c z hc hz=>((ht.2 j c z hc hz).mono lA).mono lB,hx⟩
   (fun n hn=>by
    simp only[blockOf,Option.some.injEq] at hn
    subst hn
    refine⟨⟨fun h=>h.elim (fun hk=>?_) fun e=>by omega,fun hm=>?_,by omega⟩,fun i ai hi=>?_⟩
    ·have:=hs.klow _ hk; omega
    ·have:=hs.low _ hm; omega
    ·have:=(hs.sep i _ ai hi).2.2; omega)
  have hcv:=hE.cv.ok (.fn fid caps) [.yld s.heap.length] _ x u h2 hq _ _ wB (a.eval f) #[.func (.yield (w.heap.size+1)) #[] #[]] sB ((hfr.mono lA).mono lB) rfl (fun j c z hc hz=>by
   cases j with
   |zero=>
    simp only[List.getElem?_cons_zero,Option.some.injEq] at hc
    simp only[List.getElem?_toArray,List.getElem?_cons_zero,Option.some.injEq] at hz
    subst hc; subst hz
    exact .yld _ _ (.of (List.getElem?_concat_length ..) (by simp)) rfl fun _ _ _ _ _ _ _=>(g.at_same _ _).symm
   |succ j=>simp at hc)
  rcases hcv with ⟨fid',carr,hfv,hen',hcalls⟩|⟨l,_,_,_,_,hfv,_⟩|⟨_,_,_,_,⟨z,hz,hzn⟩,_⟩
  case inr.inl=>rw[hfv] at hfr; cases hfr
  case inr.inr=>simp at hz; exact absurd hz.symm (hzn _ _ _)
  refine⟨w.heap.size+1,[{ target:=.collected w.heap.size,args:=#[] }],wB,{ target:=.fn (.func fid') carr,args:=#[.func (.yield (w.heap.size+1)) #[] #[]] },wB,fid',#[.func (.yield (w.heap.size+1)) #[] #[]]++carr,wB,hen,?_,?_,?_⟩
  ·have harg:a.eval (.const (.func (.yield (w.heap.size+1)) #[] #[]))=.func (.yield (w.heap.size+1)) #[] #[]:=rfl
   simp[resolve,hfv,Deferred.ofValue,rangeCall,harg]
  ·simp[invoke,hen']
  ·refine hcalls.mono fun e w' hp=>?_
   obtain⟨g',s2,l2,hx⟩:=hp
   have lAll:Le K s.heap g w h2 g' w':=(lA.trans (lB.less fun b h=>.inl h)).trans (l2.less fun b h=>.inl h)
   have hn:s.heap.length<h2.length:=by have:=l2.len; simp at this; omega
   have m2:MRep K0 (fun b=>K b∨b=w.heap.size) g' w' ({ target:=.collected w.heap.size,args:=#[] }::a.defers):=(mA.mono lB).mono l2
   have t2:TRep h2 g' w' s.tmps a.tmps:=ht.mono lAll
   -- the record behind the call
   have recd:∀st pend ts ps' as' bo',h2[s.heap.length]?=some (.lp st pend ts ps' as' bo')→g'.ρ s.heap.length=.func (.yield (w.heap.size+1)) #[] #[]:=fun st pend ts ps' as' bo' hh=>by
    obtain⟨_,_,_,h4⟩:=l2.lp s.heap.length st pend ts ps' as' bo' (.of (List.getElem?_concat_length ..) (by simp)) hh
    rw[h4,g.at_same]
   -- behind the statement
   have fin:∀(w3:World) (x1':AExit) (e':Exit),pairE x1' { s with heap:=h2.set s.heap.length .dead }=some (x1,s1)→Le (fun b=>K b∨b=w.heap.size) h2 g' w' (h2.set s.heap.length .dead) g' w3→St (fun b=>K b∨b=w.heap.size) (h2.set s.heap.length .dead) g' w3→XR (h2.set s.heap.length .dead) g' w3 x1' e' →
     Q e' { a with defers:=[{ target:=.collected w.heap.size,args:=#[] }]++a.defers } w3:=fun w3 x1' e' hpe l3 s3 hxr=>by
    simp only[pairE,Option.some.injEq,Prod.mk.injEq] at hpe
    obtain⟨e1,e2⟩:=hpe
    subst e1; subst e2
    exact D.on _ g' _ w3 e' (fun b h=>.inl h) s3 (lAll.trans (l3.less fun b h=>.inl h)) (t2.mono l3) (m2.mono l3) hxr
   cases x with
   |exit id=>exact hx.elim
   |ret=>exact hx.elim
   |pan v=>
    obtain⟨z,rfl,hz⟩:=hx
    show Q (.panic [{ v:=z,recovered:=false }]) _ w'
    by_cases hlp:∃st pend ts ps' as' bo',h2[s.heap.length]?=some (.lp st pend ts ps' as' bo')
    ·obtain⟨st,pend,ts,ps',as',bo',hh⟩:=hlp
     obtain⟨l3,s3⟩:=lp_drop s2 hh (l:=w.heap.size+1) (by rw[recd _ _ _ _ _ _ hh]; rfl) w' (fun _ _=>rfl) rfl rfl rfl rfl
     exact fin w' (.pan v) _ h l3 s3 ⟨z,rfl,hz.mono l3⟩
    ·have hal:Alike h2 (h2.set s.heap.length .dead):=⟨by simp,fun i b2 hb=>by
      rcases set_get hb with ⟨_,e,_⟩|⟨_,e⟩
      ·exact .inl e
      ·exact .inr ⟨b2,e,rfl⟩⟩
     have hnb:∀b,h2[s.heap.length]?=some b→b=.dead:=fun b hb=>by
      have hb':Here (s.heap++[ABlk.lp .ready none s.tmps ps.toList asg bo]) s.heap.length:=.of (List.getElem?_concat_length ..) (by simp)
      cases b with
      |dead=>rfl
      |free=>
       obtain⟨b2,h2b,hn2⟩:=l2.here _ hb'
       rw[hb] at h2b; cases h2b; exact absurd rfl hn2
      |box wr cs=>obtain⟨_,_,h4,_⟩:=l2.box _ wr cs hb' hb; simp at h4
      |row wr t e xs=>obtain⟨_,_,h4,_⟩:=l2.row _ wr t e xs hb' hb; simp at h4
      |lp st pend ts ps' as' bo'=>exact absurd ⟨_,_,_,_,_,_,hb⟩ hlp
     have hsame:h2.set s.heap.length .dead=h2:=by
      apply List.ext_getElem?
      intro i
      rw[List.getElem?_set]
      split
      ·rename_i e
       subst e
       have e1:=List.getElem?_eq_getElem hn
       first
        |rw[if_pos hn,e1,hnb _ e1]
        |rw[e1,hnb _ e1]
      ·rfl
     rw[hsame] at fin h
     exact fin w' (.pan v) _ h .refl s2 ⟨z,rfl,hz⟩
   |normal=>
    obtain⟨z,rfl,hz⟩:=hx
    simp only at h
    have gone:∀st pend ts ps' as' bo',h2.getD s.heap.length .dead=.lp st pend ts ps' as' bo'→st≠.busy→∃w3,(Instr.endLoop (w.heap.size+1)).run P w'=.ok pend w3∧Le (fun b=>K b∨b=w.heap.size) h2 g' w' (h2.set s.heap.length .dead) g' w3∧St (fun b=>K b∨b=w.heap.size) (h2.set s.heap.length .dead) g' w3:=fun st pend ts ps' as' bo' hh hne=>by
     have hh:=getD_some (by simp) hh
     have hρ:=recd _ _ _ _ _ _ hh
     obtain⟨l,arr,fn',D',d1,d2,_⟩:=s2.blk _ _ hh
     rw[hρ] at d1
     cases d1
     refine⟨_,run_endLoop d2 hne,?_⟩
     exact lp_drop s2 hh (l:=w.heap.size+1) (by rw[hρ]; rfl) _ (fun n hn=>World.putObj_heap_other hn) rfl rfl rfl World.putObj_size
    split at h
    ·cases h
    ·rename_i st ts ps' as' bo' hne hh
     obtain⟨w3,e1,l3,s3⟩:=gone _ _ _ _ _ _ hh fun e=>hne e
     exact⟨none,w3,e1,fin w3 .normal .normal h l3 s3 trivial⟩
    ·rename_i st ts ps' as' bo' hne hh
     obtain⟨w3,e1,l3,s3⟩:=gone _ _ _ _ _ _ hh fun e=>hne e
     exact⟨some .ret,w3,e1,wpB_of (wpIn_ret (fin w3 .ret .ret h l3 s3 trivial))⟩
    ·rename_i st id ts ps' as' bo' hne hh
     obtain⟨w3,e1,l3,s3⟩:=gone _ _ _ _ _ _ hh fun e=>hne e
     exact⟨some (.exit id),w3,e1,wpB_of (wpIn_exit (fin w3 (.exit id) (.exit id) h l3 s3 rfl))⟩
    ·cases h
theorem stayI_ok {K g w} {tmps:Array Value} (i:Nat) {s:AS} (hs:St K s.heap g w) (ht:TRep s.heap g w s.tmps tmps):∃g',St K (stayI i s).heap g' w∧Le K s.heap g w (stayI i s).heap g' w∧TRep (stayI i s).heap g' w (stayI i s).tmps tmps:=by
 unfold stayI
 ·split
  ·rename_i wt e xs hr
   split
   case isFalse=>exact⟨g,hs,.refl,ht⟩
   rename_i h0
   split
   ·rename_i h' hk
    obtain⟨l,s1⟩:=kill_z hs hk
    refine⟨_,s1,l,by simpa using ht.1,fun j c x hc hx=>?_⟩
    have hc:(s.tmps.map (roOf i e xs))[j]?=some c:=hc
    rw[List.getElem?_map] at hc
    cases hj:s.tmps[j]? with
    |none=>rw[hj] at hc; cases hc
    |some c0=>
     rw[hj] at hc
     simp only[Option.map_some,Option.some.injEq] at hc
     subst hc
     have r0:=ht.2 j c0 x hj hx
     cases c0 with
     |own i'=>
      simp only[roOf]
      split
      ·rename_i he
       subst he
       have hri:=getD_some (by simp) hr
       cases r0 with
       |own _ _ _ _ hv=>
        have hx':=hv _ _ e xs hri
        subst hx'
        exact row_ro (hs.blk i' _ hri) h0 (fun b h=>.inl h) fun b hb=>.inr ⟨i',by simp,hb⟩
      ·exact r0.mono l
     |_=>exact r0.mono l
   ·exact⟨g,hs,.refl,ht⟩
  ·exact⟨g,hs,.refl,ht⟩
theorem stayT_ok {K g w} {tmps:Array Value} (d:Nat) {s:AS} (hs:St K s.heap g w) (ht:TRep s.heap g w s.tmps tmps):∃g',St K (stayT d s).heap g' w∧Le K s.heap g w (stayT d s).heap g' w∧TRep (stayT d s).heap g' w (stayT d s).tmps tmps:=by
 unfold stayT
 split
 ·exact stayI_ok _ hs ht
 ·exact⟨g,hs,.refl,ht⟩
theorem stayL_ok {K w} {tmps:Array Value}:∀(l:List Nat) {g} {s:AS},St K s.heap g w→TRep s.heap g w s.tmps tmps→∃g',St K (stayL l s).heap g' w∧Le K s.heap g w (stayL l s).heap g' w∧TRep (stayL l s).heap g' w (stayL l s).tmps tmps
 | [],g,s,hs,ht=>⟨g,hs,.refl,ht⟩
 |o::l,g,s,hs,ht=>by
  obtain⟨g1,a1,a2,a3⟩:=stayI_ok o hs ht
  obtain⟨g2,b1,b2,b3⟩:=stayL_ok l a1 a3
  exact⟨g2,b1,a2.trans b2,b3⟩
theorem stayR_ok {K w} {tmps:Array Value}:∀(l:List Oper) {g} {s:AS},St K s.heap g w→TRep s.heap g w s.tmps tmps→∃g',St K (stayR l s).heap g' w∧Le K s.heap g w (stayR l s).heap g' w∧TRep (stayR l s).heap g' w (stayR l s).tmps tmps
 | [],g,s,hs,ht=>⟨g,hs,.refl,ht⟩
 |o::l,g,s,hs,ht=>by
  have h0:∃g',St K (stayO s o).heap g' w∧Le K s.heap g w (stayO s o).heap g' w∧TRep (stayO s o).heap g' w (stayO s o).tmps tmps:=by
   unfold stayO
   split
   ·cases isAppO o.op
    ·exact⟨g,hs,.refl,ht⟩
    ·exact stayT_ok _ hs ht
   ·exact⟨g,hs,.refl,ht⟩
  obtain⟨g1,a1,a2,a3⟩:=h0
  obtain⟨g2,b1,b2,b3⟩:=stayR_ok l a1 a3
  exact⟨g2,b1,a2.trans b2,b3⟩
theorem stayF_ok {K w} {tmps:Array Value} (l:List Oper) {g} {s:AS} (hs:St K s.heap g w) (ht:TRep s.heap g w s.tmps tmps):∃g',St K (stayF env l s).heap g' w∧Le K s.heap g w (stayF env l s).heap g' w∧TRep (stayF env l s).heap g' w (stayF env l s).tmps tmps:=by
 unfold stayF
 cases env.apz
 ·cases env.frt
  ·simp only[cond_false]
   cases env.sts
   ·exact⟨g,hs,.refl,ht⟩
   ·simp only[cond_true]
    unfold stayS
    cases l.any isStoO
    ·exact⟨g,hs,.refl,ht⟩
    ·exact stayL_ok _ hs ht
  ·simp only[cond_true,cond_false]
   unfold stayQ
   cases l.any isTryO
   ·exact⟨g,hs,.refl,ht⟩
   ·exact stayL_ok _ hs ht
 ·exact stayR_ok l hs ht
theorem ev_wp (hm:P.follows .mixedOrders=true) (hT:TabOk P T) (hE:EnvOk P env) (hx:FnIn b.fn) (N:Nat):∀(c:Code) (s:AS) (x1:AExit) (s1:AS) (a:Act) (w:World) (g:Gh) (K:Nat→Prop) (Q:Exit→Act→World→Prop),(b.roundOf=none→∀b,K0 b→K b)→(b.roundOf.isSome=true→hasRange c=false) →
  ev real T env N c s pairE=some (x1,s1)→St K s.heap g w→TRep s.heap g w s.tmps a.tmps→MRep K0 K g w a.defers→Done K0 K s.heap g w x1 s1 Q→WpB b P c Q a w
 |.skip,s,x1,s1,a,w,g,K,Q,hK,hro,h,hs,ht,hd,D=>by cases h; exact wpB_of (wpIn_skip (D.on K g a w _ (fun _ h=>h) hs .refl ht hd trivial))
 |.label _,s,x1,s1,a,w,g,K,Q,hK,hro,h,hs,ht,hd,D=>by cases h; exact wpB_of (wpIn_label (D.on K g a w _ (fun _ h=>h) hs .refl ht hd trivial))
 |.region id ops dr,s,x1,s1,a,w,g,K,Q,hK,hro,h,hs,ht,hd,D=>by
  simp only[ev] at h
  have CC:∀(st':AS) g' (a':Act) w' e,stayK env ops pairE .normal st'=some (x1,s1)→St K st'.heap g' w'→Le K s.heap g w st'.heap g' w'→TRep st'.heap g' w' st'.tmps a'.tmps→a'.defers=a.defers→XR st'.heap g' w' .normal e→Q e a' w':=fun st' g' a' w' e hk h1 h2 h3 h4 h5=>by
   have hd':MRep K0 K g' w' a'.defers:=by rw[h4]; exact hd.mono h2
   simp only[stayK] at hk
   ·cases hk
    obtain⟨g2,q1,q2,q3⟩:=stayF_ok (env:=env) ops.toList h1 h3
    exact D.on K g2 a' w' e (fun _ h=>h) q1 (h2.trans q2) q3 (by rw[h4]; exact hd.mono (h2.trans q2)) (by cases e<;>exact h5)
  have C:CCont K s.heap g w a.defers (fun x s'=>match x with
    |.normal=>stayK env ops pairE .normal s'
    |.pan v=>pairE (.pan v) s'
    |_=>none) (x1,s1) Q:=⟨fun x st' g' a' w' e hk h1 h2 h3 h4 h5=>by
   have hd':MRep K0 K g' w' a'.defers:=by rw[h4]; exact hd.mono h2
   cases x with
   |normal=>exact CC st' g' a' w' e hk h1 h2 h3 h4 h5
   |pan v=>cases hk; exact D.on K g' a' w' e (fun _ h=>h) h1 h2 h3 hd' h5
   |exit i=>cases hk
   |ret=>cases hk⟩
  cases dr
  ·exact wpB_of (region_wp hT hE id _ s.heap g w _ C s a w g h hs .refl ht rfl)
  ·refine wpB_of (region_draw_wp hm hT hE id _ _ s a w g ⟨fun x st' g' a' w' e hk h1 h2 h3 h4 h5=>by
    have hd':MRep K0 K g' w' a'.defers:=by rw[h4]; exact hd.mono h2
    cases x with
    |normal=>exact CC st' g' a' w' e hk h1 h2 h3 h4 h5
    |_=>cases hk; exact D.on K g' a' w' e (fun _ h=>h) h1 h2 h3 hd' h5⟩ h hs ht rfl)
 |.seq p q,s,x1,s1,a,w,g,K,Q,hK,hro,h,hs,ht,hd,D=>by
  simp only[ev] at h
  obtain⟨y,s2,h1,h2⟩:=ev_pair hE h
  refine wpB_seq (ev_wp hm hT hE hx N p s y s2 a w g K _ hK (fun hr=>by have:=hro hr; simp[hasRange] at this; exact this.1) h1 hs ht hd ⟨fun K1 g' a' w' e k1 i1 i2 i3 i4 i5=>?_⟩)
  cases y with
  |normal=>
   rw[xr_normal i5]
   exact ev_wp hm hT hE hx N q s2 x1 s1 a' w' g' K1 Q (fun e b hb=>k1 b (hK e b hb)) (fun hr=>by have:=hro hr; simp[hasRange] at this; exact this.2) h2 i1 i3 i4 ⟨fun K2 g2 a2 w2 e2 k2 j1 j2 j3 j4 j5=>D.on K2 g2 a2 w2 e2 (fun b hb=>k2 b (k1 b hb)) j1 (i2.trans (j2.less k1)) j3 j4 j5⟩
  |exit i=>
   cases h2
   have:=xr_exit i5
   subst this
   exact D.on K1 g' a' w' _ k1 i1 i2 i3 i4 i5
  |ret=>
   cases h2
   have:=xr_ret i5
   subst this
   exact D.on K1 g' a' w' _ k1 i1 i2 i3 i4 i5
  |pan v=>
   cases h2
   obtain⟨ch,e'⟩:=xr_pan i5
   subst e'
   exact D.on K1 g' a' w' _ k1 i1 i2 i3 i4 i5
 |.cond o p q,s,x1,s1,a,w,g,K,Q,hK,hro,h,hs,ht,hd,D=>by
  simp only[ev] at h
  split at h
  ·rename_i t hb
   have hv:=ht.ev o
   rw[hb] at hv
   have hc:=rep_bool hv
   simp only[real_part] at h
   refine wpB_cond hc ?_
   cases t
   ·exact ev_wp hm hT hE hx N q s x1 s1 a w g K Q hK (fun hr=>by have:=hro hr; simp[hasRange] at this; exact this.2) h hs ht hd D
   ·exact ev_wp hm hT hE hx N p s x1 s1 a w g K Q hK (fun hr=>by have:=hro hr; simp[hasRange] at this; exact this.1) h hs ht hd D
  ·cases h
 |.block id p,s,x1,s1,a,w,g,K,Q,hK,hro,h,hs,ht,hd,D=>by
  simp only[ev] at h
  obtain⟨y,s2,h1,h2⟩:=ev_pair hE h
  refine wpB_block (ev_wp hm hT hE hx N p s y s2 a w g K _ hK hro h1 hs ht hd ⟨fun K1 g' a' w' e k1 i1 i2 i3 i4 i5=>?_⟩)
  cases y with
  |normal=>
   cases h2
   have:=xr_normal i5
   subst this
   exact D.on K1 g' a' w' _ k1 i1 i2 i3 i4 i5
  |exit i=>
   have:=xr_exit i5
   subst this
   simp only at h2
   simp only[Exit.inBlock]
   split
   ·rename_i e
    rw[if_pos e] at h2
    cases h2
    exact D.on K1 g' a' w' _ k1 i1 i2 i3 i4 trivial
   ·rename_i e
    rw[if_neg e] at h2
    cases h2
    exact D.on K1 g' a' w' _ k1 i1 i2 i3 i4 i5
  |ret=>
   cases h2
   have:=xr_ret i5
   subst this
   exact D.on K1 g' a' w' _ k1 i1 i2 i3 i4 i5
  |pan v=>
   cases h2
   obtain⟨ch,e'⟩:=xr_pan i5
   subst e'
   exact D.on K1 g' a' w' _ k1 i1 i2 i3 i4 i5
 |.loop p,s,x1,s1,a,w,g,K,Q,hK,hro,h,hs,ht,hd,D=>by
  simp only[ev] at h
  split at h
  ·cases h
  ·rename_i L hL
   split at h
   ·cases h
   ·rename_i x0 hx0
    have A0:=at_entry (a:=a) hL hx0 hs ht
    obtain⟨R,hR,hRK⟩:=loop_some h
    clear h
    generalize hfeq:(fun x=>ev real T env N p (α:=LRes L.ty (AExit × AS)) (L.state s true x) _)=f at hR
    have key:∀(n:Nat) (x:L.ty) (b1:Act) (w1:World) (g1:Gh) (K1:Nat→Prop),(∀b,K b→K1 b)→iterL n f x=some R→St K1 (L.state s true x).heap g1 w1→Le K s.heap g w (L.state s true x).heap g1 w1→TRep (L.state s true x).heap g1 w1 (L.state s true x).tmps b1.tmps→MRep K0 K1 g1 w1 b1.defers →
      RoundsB b P p Q n b1 w1:=by
     intro n
     induction n with
     |zero=>intro x b1 w1 g1 K1 _ hi _ _ _ _; cases hi
     |succ n ih=>
      intro x b1 w1 g1 K1 k0 hi k1 k2 k3 k4
      simp only[iterL] at hi
      cases hfx:f x with
      |none=>rw[hfx] at hi; cases hi
      |some R1=>
       rw[hfx] at hi
       have hfx':=hfx
       rw[←hfeq] at hfx'
       obtain⟨y,s2,h1,h2⟩:=ev_pair hE hfx'
       have fr:=ev_frame hE N p _ y s2 h1
       refine ev_wp hm hT hE hx N p _ y s2 b1 w1 g1 K1 _ (fun e b hb=>k0 b (hK e b hb)) hro h1 k1 k3 k4 ⟨fun K2 g' a' w' e kk i1 i2 i3 i4 i5=>?_⟩
       have k02:∀b,K b→K2 b:=fun b hb=>kk b (k0 b hb)
       have lall:=k2.trans (i2.less k0)
       cases y with
       |normal=>
        have:=xr_normal i5
        subst this
        simp only at h2
        split at h2
        ·rename_i z hz
         cases h2
         have A:=at_round hL hx0 A0 i2 fr (.inl rfl) hz i1 i3
         have l3:=A.le' hz true k02 lall
         exact ih z a' w' _ K2 k02 hi (A.st' hz true) l3 (A.tr' hz true) (A.mr hz i4)
        ·cases h2
       |exit id=>
        have:=xr_exit i5
        subst this
        simp only at h2
        split at h2
        ·split at h2
         ·rename_i z hz
          cases h2
          simp only at hi
          cases hi
          rcases hRK with ⟨id',y',e1,e2⟩|e1
          ·cases e1
           obtain⟨_,e3⟩:=goOut_some _ e2
           cases e3
           have A:=at_round hL hx0 A0 i2 fr (.inr ⟨_,rfl⟩) hz i1 i3
           exact D.on K2 _ a' w' _ k02 (A.st' hz false) (A.le' hz false k02 lall) (A.tr' hz false) (A.mr hz i4) rfl
          ·cases e1
         ·cases h2
        ·cases h2
       |ret=>
        have:=xr_ret i5
        subst this
        have e0:R1=.fin (.ret,{ s2 with heap:=unlockH s.heap s2.heap }):=by
         have:some (LRes.fin (AExit.ret,{ s2 with heap:=unlockH s.heap s2.heap }))=some R1:=h2
         cases this; rfl
        subst e0
        simp only at hi
        cases hi
        rcases hRK with ⟨id',y',e1,e2⟩|e1
        ·cases e1
        ·cases e1
         have al:=unlock_alike s.heap s2.heap
         exact D.on K2 g' a' w' _ k02 (al.st i1) (unlock_le lall) (al.trep i3) i4 i5
       |pan v=>
        obtain⟨ch,e'⟩:=xr_pan i5
        subst e'
        have e0:R1=.fin (.pan v,{ s2 with heap:=unlockH s.heap s2.heap }):=by
         have:some (LRes.fin (AExit.pan v,{ s2 with heap:=unlockH s.heap s2.heap }))=some R1:=h2
         cases this; rfl
        subst e0
        simp only at hi
        cases hi
        rcases hRK with ⟨id',y',e1,e2⟩|e1
        ·cases e1
        ·cases e1
         have al:=unlock_alike s.heap s2.heap
         exact D.on K2 g' a' w' _ k02 (al.st i1) (unlock_le lall) (al.trep i3) i4 (xr_alike al i5)
    exact wpB_loop N (key N x0 a w _ K (fun _ h=>h) hR (A0.st' hx0 true) (A0.le' hx0 true (fun _ h=>h) .refl) (A0.tr' hx0 true) (A0.mr hx0 hd))
 |.exit id,s,x1,s1,a,w,g,K,Q,hK,hro,h,hs,ht,hd,D=>by cases h; exact wpB_of (wpIn_exit (D.on K g a w _ (fun _ h=>h) hs .refl ht hd rfl))
 |.ret,s,x1,s1,a,w,g,K,Q,hK,hro,h,hs,ht,hd,D=>by cases h; exact wpB_of (wpIn_ret (D.on K g a w _ (fun _ h=>h) hs .refl ht hd trivial))
 |.scope p,s,x1,s1,a,w,g,K,Q,hK,hro,h,hs,ht,hd,D=>by
  simp only[ev] at h
  refine wpB_scope (ev_wp hm hT hE hx N p s x1 s1 a w g K _ hK hro h hs ht hd ⟨fun K1 g' a' w' e k1 i1 i2 i3 i4 i5=>?_⟩)
  have:=D.on K1 g' a' w' e k1 i1 i2 i3 i4 i5
  cases e with
  |goto l=>cases x1<;>cases i5
  |_=>exact this
 |.goto _,s,x1,s1,a,w,g,K,Q,hK,hro,h,hs,ht,hd,D=>by cases h
 |.rangeFunc f ps asg bo,s,x1,s1,a,w,g,K,Q,hK,hro,h,hs,ht,hd,D=>by
  simp only[ev] at h
  cases hr:hasRange asg || hasRange bo
  ·rw[hr] at h
   simp only[cond_false] at h
   have hn:b.roundOf=none:=by
    cases he:b.roundOf with
    |none=>rfl
    |some l=>have:=hro (by rw[he]; rfl); cases this
   exact range_wp hE hn hx (hK hn) h hs ht hd D
  ·rw[hr] at h; cases h
 |.refuse _,s,x1,s1,a,w,g,K,Q,hK,hro,h,hs,ht,hd,D=>by cases h
end
theorem peek2_alive {h:List ABlk} {v u:AVal} (hp:peek2 h v=some u):∀i∈v.named2,alive h i:=by
 intro i hi
 unfold peek2 at hp
 split at hp
 ·rename_i vs
  split at hp
  ·rename_i us hus
   obtain⟨c,hc,hi⟩:=List.mem_flatMap.1 hi
   obtain⟨j,hj,rfl⟩:=List.mem_iff_getElem.1 hc
   obtain⟨h1,h2⟩:=peekL_get hus
   exact peek1_alive (h2 j _ _ (List.getElem?_eq_getElem hj) (List.getElem?_eq_getElem (by omega))) i hi
  ·cases hp
 ·rename_i t v
  split at hp
  ·rename_i u' hu
   exact peek1_alive hu i hi
  ·cases hp
 ·rename_i f cs
  split at hp
  ·rename_i us hus
   obtain⟨c,hc,hi⟩:=List.mem_flatMap.1 hi
   obtain⟨j,hj,rfl⟩:=List.mem_iff_getElem.1 hc
   obtain⟨h1,h2⟩:=peekL_get hus
   exact peekP_alive (h2 j _ _ (List.getElem?_eq_getElem hj) (List.getElem?_eq_getElem (by omega))) i hi
  ·cases hp
 ·rename_i v h1 h2 h3
  refine peek1_alive hp i ?_
  unfold AVal.named2 at hi
  split at hi
  ·exact absurd rfl (h1 _)
  ·exact absurd rfl (h2 _ _)
  ·exact absurd rfl (h3 _ _)
  ·exact hi
def resF (tmps:Array Value):ResultVar→Sem Value
 |.tmp t=>pure (tmps.getD t Go.undef)
 |.cell a t=>do loadVar t (←asAddr (tmps.getD a Go.undef))
theorem results_eq (fn:Func) (tmps:Array Value):results fn tmps=(fn.results.mapM (resF tmps) >>= fun vs=>pure (if h:vs.size=1 then vs[0] else .tuple vs)):=by
 unfold results
 congr 1
section
variable {P:Program} {T:Tab} {env:Env}
theorem out_of {M:Nat→Prop} {w w':World} {s1:AS} {g':Gh} {v u:AVal} {x:Value} (hs:St (fun b=>b<w.heap.size) s1.heap g' w') (hl:Le (fun b=>b<w.heap.size) [] ⟨fun _=>Go.undef,M⟩ w s1.heap g' w') (hr:Rep s1.heap g' w' v x) (hp:peek2 s1.heap v=some u) :
  ∃M':Nat→Prop,(∀b,M b→M' b)∧(∀b,M' b→M b∨w.heap.size≤b)∧(∀b,M' b→b<w'.heap.size)∧Below w.heap.size w w'∧Rep [] ⟨fun _=>Go.undef,M'⟩ w' u x:=by
 refine⟨(g'.plus v.named2).M,fun b hb=>.inl (hl.m b hb),fun b hb=>?_,fun b hb=>?_,⟨hl.os,hl.tape,hl.output,hl.size,hl.k⟩,?_⟩
 ·rcases hb with hb|⟨i,hi,hb⟩
  ·exact (hl.new b hb).imp id fun h=>Nat.le_of_not_lt h
  ·exact .inr (Nat.le_of_not_lt (hs.sep i b (peek2_alive hp i hi) hb).1)
 ·rcases hb with hb|⟨i,hi,hb⟩
  ·exact hs.low b hb
  ·exact (hs.sep i b (peek2_alive hp i hi) hb).2.2
 ·exact peek2_rep (g':=⟨fun _=>Go.undef,(g'.plus v.named2).M⟩) hs hr hp (fun b hb=>Or.inl hb) fun i hi b hb=>Or.inr ⟨i,hi,hb⟩
theorem res_run (hT:TabOk P T) {K:Nat→Prop} {s:AS} {g:Gh} {w:World} {tmps:Array Value} (hs:St K s.heap g w) (ht:TRep s.heap g w s.tmps tmps):∀(rs:List ResultVar) (vs:List AVal),resOf T s rs=some vs →
  ∃xs:List Value,(rs.mapM (resF tmps)).run P w=.ok xs w∧vs.length=xs.length∧∀(j:Nat) c x,vs[j]?=some c→xs[j]?=some x→Rep s.heap g w c x
 | [],vs,h=>by
   simp only[resOf,Option.some.injEq] at h
   subst h
   exact⟨[],by simp,rfl,fun j c x hc=>by simp at hc⟩
 |.tmp t::r,vs,h=>by
  simp only[resOf] at h
  split at h
  ·rename_i l hl
   cases h
   obtain⟨xs,h1,h2,h3⟩:=res_run hT hs ht r l hl
   refine⟨tmps.getD t Go.undef::xs,?_,by simp[h2],fun j c x hc hx=>?_⟩
   ·rw[List.mapM_cons,Sem.run_bind]
    show ((List.mapM (resF tmps) r >>= _:Sem _)).run P w=_
    rw[Sem.run_bind,h1]
    rfl
   ·cases j with
    |zero=>
     simp only[List.getElem?_cons_zero,Option.some.injEq] at hc hx
     subst hc; subst hx
     exact ht.get t
    |succ j=>exact h3 j c x (by simpa using hc) (by simpa using hx)
  ·cases h
 |.cell a t::r,vs,h=>by
  simp only[resOf] at h
  split at h
  ·rename_i cs l hc hl
   split at h
   ·rename_i v hv
    cases h
    obtain⟨xs,h1,h2,h3⟩:=res_run hT hs ht r l hl
    obtain⟨b,n,e1,e2⟩:=cellsAt_rep hs (ht.get a) hc
    obtain⟨z,e3,e4⟩:=load_var hT e2 hv
    refine⟨z::xs,?_,by simp[h2],fun j c x hc hx=>?_⟩
    ·have hz:(resF tmps (.cell a t)).run P w=.ok z w:=by
      simp only[resF]
      rw[e1]
      exact e3
     rw[List.mapM_cons,Sem.run_bind,hz]
     show ((List.mapM (resF tmps) r >>= _:Sem _)).run P w=_
     rw[Sem.run_bind,h1]
     rfl
    ·cases j with
     |zero=>
      simp only[List.getElem?_cons_zero,Option.some.injEq] at hc hx
      subst hc; subst hx
      exact e4
     |succ j=>exact h3 j c x (by simpa using hc) (by simpa using hx)
   ·cases h
  ·cases h
theorem results_rep (hT:TabOk P T) {K:Nat→Prop} {s:AS} {g:Gh} {w:World} {tmps:Array Value} (hs:St K s.heap g w) (ht:TRep s.heap g w s.tmps tmps) {fn:Func} {vs:List AVal} (h:resOf T s fn.results.toList=some vs) :
  ∃x,(results fn tmps).run P w=.ok x w∧Rep s.heap g w (match (generalizing:=false) vs with|[v]=>v|vs=>.tup vs) x:=by
 obtain⟨xs,h1,h2,h3⟩:=res_run hT hs ht _ _ h
 refine⟨if h:xs.toArray.size=1 then xs.toArray[0] else .tuple xs.toArray,?_,?_⟩
 ·rw[results_eq,Array.mapM_eq_mapM_toList,bind_map_left,Sem.run_bind,h1]
  rfl
 ·match vs,xs,h2 with
  | [],[],_=>exact .tup _ _ rfl fun j c x hc=>by simp at hc
  | [v],[x],_=>exact h3 0 v x rfl rfl
  |v::v'::vs,x::x'::xs,h2=>
   simp only[List.size_toArray,List.length_cons]
   rw[dif_neg (by omega)]
   exact .tup _ _ (by simpa using h2) fun j c y hc hy=>h3 j c y hc (by simpa using hy)
theorem body_nat (hE:EnvOk P env) (N:Nat) (fn:Func) {α:Type} (args:List AVal) (h:List ABlk) (k:AExit→AVal→List ABlk→Option α) :
  evBody real T env N fn args h k=(evBody real T env N fn args h tripE).bind fun p=>k p.1 p.2.1 p.2.2:=by
 unfold evBody
 split
 ·rfl
 ·rename_i c _
  refine bind_nat (e:=fun k=>ev real T env N c _ k) (fun k=>ev_nat hE N c _ k) (fun p:AExit × AVal × List ABlk=>k p.1 p.2.1 p.2.2) fun x s'=>?_
  split
  ·rfl
  ·rfl
  ·split<;>rfl
theorem leaves_marks {fn:Func} {tmps:Array Value} {R:Ending→World→Prop} {K K':Nat→Prop} {h0 h:List ABlk} {g0 g:Gh} {w0:World} {u:FrameMode} (hu:u≠.run) (hkk:∀b,K b→K' b):∀(rs:List Nat) (w:World),rs.Nodup→(∀r∈rs,K' r∧¬K r∧¬g.M r∧w.heap[r]?=some (.deferred (some []))) →
  St K' h g w→Le K h0 g0 w0 h g w→(∀w',St K' h g w'→Le K h0 g0 w0 h g w'→Le K h g w h g w'→LeavesIn (FW none) 0 P fn tmps R [] u w') →
  LeavesInM (FW none) 0 P fn tmps R (rs.map fun r=>({ target:=.collected r,args:=#[] }:Deferred)) u w
 | [],w,_,_,hs,hl,hq=>hq w hs hl .refl
 |r::rs,w,hn,hr,hs,hl,hq=>by
  obtain⟨r1,r2,r3,r4⟩:=hr r (by simp)
  have hw:∀n,n≠r→(w.putObj r (.deferred none)).heap[n]?=w.heap[n]?:=fun n hn=>World.putObj_heap_other hn
  have l1:Le K h g w h g (w.putObj r (.deferred none)):=⟨Nat.le_refl _,fun _ h=>h,fun _ h=>h,fun _ h=>.inl h,fun b hb=>hw b fun e=>r3 (e▸hb),fun b hb=>hw b fun e=>r2 (e▸hb),fun _ wr cs' _ h=>⟨wr,cs',h,rfl,rfl⟩,fun _ wr _ _ xs' _ h=>⟨wr,xs',h,fun _=>rfl,rfl⟩,fun _ st pend _ _ _ _ _ h=>⟨st,pend,h,rfl⟩,fun _ _ h=>h,fun _ _ _ _ h=>h,rfl,rfl,rfl,by simp⟩
  have s1:St K' h g (w.putObj r (.deferred none)):=⟨fun i b hb=>(hs.blk i b hb).mono l1 rfl fun n hd hn=>hw n fun e=>(hs.sep i n ⟨b,hb,hd⟩ hn).1 (e▸r1),hs.inj,fun i b ha hb=>by rw[World.putObj_size]; exact hs.sep i b ha hb,fun b hb=>by rw[World.putObj_size]; exact hs.low b hb,fun b hb=>by rw[World.putObj_size]; exact hs.klow b hb⟩
  obtain⟨n1,n2⟩:=List.nodup_cons.1 hn
  refine⟨hu,.inl ⟨r,_,rfl,run_takeDeferred r4,leaves_marks hu hkk rs _ n2 (fun q hq'=>?_) s1 (hl.trans l1) fun w' a b c=>hq w' a b (l1.trans c)⟩⟩
  obtain⟨q1,q2,q3,q4⟩:=hr q (List.mem_cons_of_mem _ hq')
  exact⟨q1,q2,q3,(hw q fun e=>n1 (e▸hq')).trans q4⟩
theorem body_calls (hm:P.follows .mixedOrders=true) (hT:TabOk P T) (hE:EnvOk P env) (N:Nat) {f:FuncId} {fn:Func} (hf:P.funcs[f]?=some fn) {args:List AVal} {h h1:List ABlk} {x:AExit} {u:AVal} (hk:evBody real T env N fn args h tripE=some (x,u,h1))
  {K:Nat→Prop} {g:Gh} {w:World} {cargs:Array Value} (hs:St K h g w) (hl:args.length=cargs.size) (hr:∀(j:Nat) c z,args[j]?=some c→cargs[j]?=some z→Rep h g w c z):Calls P f cargs w (CvPost K h g w h1 x u):=by
 unfold evBody at hk
 split at hk
 ·cases hk
 ·rename_i c hc
  obtain⟨x1,s1,h1',h2⟩:=ev_pair hE hk
  refine calls_of_wpB hf hc fun b hbf hbr=>(ev_wp (b:=b) (K0:=K) hm hT hE ⟨fn,by rw[hbf,←hT.pr]; exact hf⟩ N c _ x1 s1 _ w g K _ (fun _ _ h=>h) (fun h=>by rw[hbr] at h; cases h) h1' hs ⟨by simp[hl],fun j c x hc hx=>?_⟩ MRep.nil ⟨fun K' g' a' w' e kk i1 i2 i3 i4 i5=>?_⟩)
  ·rcases Nat.lt_or_ge j args.length with hj|hj
   ·rw[List.getElem?_append_left hj] at hc
    rw[Array.getElem?_append_left (by omega)] at hx
    exact hr j c x hc hx
   ·rw[List.getElem?_append_right hj,List.getElem?_replicate] at hc
    rw[Array.getElem?_append_right (by omega),Array.getElem?_replicate] at hx
    split at hc
    ·cases hc
     split at hx
     ·cases hx; exact .undef
     ·cases hx
    ·cases hc
  ·obtain⟨rs,n1,n2,n3⟩:=i4
   have ret:∀vs,resOf T s1 fn.results.toList=some vs→tripE .normal (match (generalizing:=false) vs with|[v]=>v|vs=>.tup vs) s1.heap=some (x,u,h1)→LeavesInM (FW none) 0 P fn a'.tmps (CvPost K h g w h1 x u) a'.defers .returning w':=fun vs hvs ho=>by
    rw[n2]
    refine leaves_marks (by simp) kk rs w' n1 n3 i1 i2 fun w2 j1 j2 j3=>?_
    obtain⟨z,e1,e2⟩:=results_rep hT j1 (i3.mono j3) hvs
    cases ho
    exact⟨z,e1,g',j1.less kk,j2,z,rfl,e2⟩
   split at h2
   ·rename_i v
    cases h2
    cases e with
    |panic ch=>
     obtain⟨y,rfl,hy⟩:=i5
     show LeavesInM (FW none) 0 P fn a'.tmps _ a'.defers (.panicking _) w'
     rw[n2]
     exact leaves_marks (by simp) kk rs w' n1 n3 i1 i2 fun w2 j1 j2 j3=>⟨g',j1.less kk,j2,y,rfl,hy.mono j3⟩
    |_=>cases i5
   ·cases h2
   ·rename_i hn1 hn2
    split at h2
    ·cases h2
    ·rename_i vs hvs
     cases x1 with
     |normal=>rw[xr_normal i5]; exact ret vs hvs h2
     |ret=>rw[xr_ret i5]; exact ret vs hvs h2
     |exit i=>exact absurd rfl (hn2 i)
     |pan v=>exact absurd rfl (hn1 v)
theorem post_of_cv {M:Nat→Prop} {w:World} {h1:List ABlk} {x:AExit} {u:AVal} {out:AOut} (hk:(match x with
   |.pan v=>
    match peek2 h1 v with
    |some u=>some (AOut.pan u)
    |none=>none
   |_=>
    match peek2 h1 u with
    |some u=>some (AOut.ret u)
    |none=>none)=some out) {e:Ending} {w':World} (h:CvPost (fun b=>b<w.heap.size) [] ⟨fun _=>Go.undef,M⟩ w h1 x u e w'):CPost M w out e w':=by
 obtain⟨g',s1,l1,hx⟩:=h
 cases x with
 |exit i=>exact hx.elim
 |ret=>exact hx.elim
 |normal=>
  obtain⟨z,rfl,hz⟩:=hx
  simp only at hk
  split at hk
  ·rename_i u' hu
   cases hk
   obtain⟨M',m1,m2,m3,m4,m5⟩:=out_of (s1:=⟨[],h1⟩) s1 l1 hz hu
   exact⟨M',m1,m2,m3,m4,z,rfl,m5⟩
  ·cases hk
 |pan v=>
  obtain⟨z,rfl,hz⟩:=hx
  simp only at hk
  split at hk
  ·rename_i u' hu
   cases hk
   obtain⟨M',m1,m2,m3,m4,m5⟩:=out_of (s1:=⟨[],h1⟩) s1 l1 hz hu
   exact⟨M',m1,m2,m3,m4,z,rfl,m5⟩
  ·cases hk
theorem st_start {w:World} {M:Nat→Prop} (hM:∀b,M b→b<w.heap.size):St (fun b=>b<w.heap.size) [] ⟨fun _=>Go.undef,M⟩ w:=
 ⟨fun i b hb=>by simp at hb,fun i j b hi=>by obtain⟨b,hb,_⟩:=hi; simp at hb,fun i b hi=>by obtain⟨b,hb,_⟩:=hi; simp at hb,hM,fun b hb=>hb⟩
theorem fn_ok (hm:P.follows .mixedOrders=true) (hT:TabOk P T) (hE:EnvOk P env) (N:Nat) {f:FuncId} {fn:Func} (hf:P.funcs[f]?=some fn) (hen:∀args w,(callFunc f args).run P w=.ok (.enter f args) w):FspOk P f (evFn real T env N fn) where
 enter:=hen
 nat:=fun α args k=>by
  unfold evFn
  rw[body_nat hE,body_nat hE (α:=AOut)]
  cases evBody real T env N fn args [] tripE with
  |none=>rfl
  |some p=>
   obtain⟨x,v,h⟩:=p
   cases x<;>(simp only[Option.bind_some]; split<;>rfl)
 calls:=fun args out hout M w cargs hM hl hr=>by
  unfold evFn at hout
  rw[body_nat hE] at hout
  cases hq:evBody real T env N fn args [] tripE with
  |none=>rw[hq] at hout; cases hout
  |some p=>
   obtain⟨x,v,h⟩:=p
   rw[hq] at hout
   exact (body_calls hm hT hE N hf hq (st_start hM) hl hr).mono fun e w' hp=>post_of_cv hout hp
end
end Go.Proofs.YtpgfncncgjihpaaGreat
namespace Go.Proofs.YtpgfncncgjihpaaGreat
def eqS:AVal→AVal→Bool
 |.int j m,.int k n=>decide (j=k)&&decide (m=n)
 |.bool b,.bool c=>b==c
 |.str s,.str t=>decide (s=t)
 |.nils,.nils=>true
 |.nilif,.nilif=>true
 |.nilfn,.nilfn=>true
 |.nilmp,.nilmp=>true
 |.nilpt,.nilpt=>true
 |.any,.any=>true
 |_,_=>false
def eqL:List AVal→List AVal→Bool
 | [],[]=>true
 |a::r,b::q=>eqS a b&&eqL r q
 |_,_=>false
def eqV:AVal→AVal→Bool
 |.agg cs,.agg ds=>eqL cs ds
 |a,b=>eqS a b
theorem eqS_spec {a b:AVal} (h:eqS a b=true):a=b:=by
 unfold eqS at h
 split at h
 ·simp only[Bool.and_eq_true,decide_eq_true_eq] at h; rw[h.1,h.2]
 ·rw[beq_iff_eq.1 h]
 ·rw[of_decide_eq_true h]
 all_goals first|rfl|cases h
theorem eqL_spec:∀ {a b:List AVal},eqL a b=true→a=b
 | [],[],_=>rfl
 |a::r,b::q,h=>by
  simp only[eqL,Bool.and_eq_true] at h
  rw[eqS_spec h.1,eqL_spec h.2]
 | [],_::_,h=>by cases h
 |_::_,[],h=>by cases h
theorem eqV_spec {a b:AVal} (h:eqV a b=true):a=b:=by
 unfold eqV at h
 split at h
 ·rw[eqL_spec h]
 ·exact eqS_spec h
def dB:TyD→TypeDesc→Bool
 |.int k,.int j=>decide (j=k)
 |.bool,.bool=>true
 |.str,.string=>true
 |.sl x,.slice y=>decide (y=x)
 |.arr n x,.array m y=>decide (m=n)&&decide (y=x)
 | .recd l, .struct fs => decide (fs.toList.map (fun f => (f.offset, f.type)) = l) && fs.toList.all (fun f => f.name != "_")
 |.map k v,.map x y=>decide (x=k)&&decide (y=v)
 |.ifc,.interface _=>true
 |.other,.struct _=>false
 |.other,.array _ _=>false
 |.other,.interface _=>false
 |.other,_=>true
 |_,_=>false
def zeroB:Option AVal→Option Value→Bool
 |none,_=>true
 |some z,some v=>eqV (ofValue v) z
 |_,_=>false
def tyB (P:Program) (t:TypeId) (e:TyE):Bool:=
 (match P.underlying t with
  |some d=>dB e.d d&&(match e.d with|.recd _=>!P.stoodInHeld t&&!P.eqGuardType P.depth t|.arr _ _=>!P.eqGuardType P.depth t|_=>true)
  |none=>false) &&
 (match P.info? t with
  |some i=>decide (i.size=e.size)&&decide (i.bytes=e.bytes)&&zeroB e.zero i.zero
  |none=>false)
theorem ty_ok {P:Program} {t:TypeId} {e:TyE} (h:tyB P t e=true):TyOk P t e:=by
 unfold tyB at h
 simp only[Bool.and_eq_true] at h
 obtain⟨h1,h2⟩:=h
 split at h1
 ·rename_i d hd
  split at h2
  ·rename_i i hi
   simp only[Bool.and_eq_true,decide_eq_true_eq] at h2
   obtain⟨⟨h3,h4⟩,h5⟩:=h2
   refine⟨?_,fun n x hx=>?_,i,hi,h3,h4,fun z hz=>?_⟩
   ·rw[hd]
    simp only[Bool.and_eq_true] at h1
    obtain⟨h1,h1'⟩:=h1
    cases hx:e.d with
    |recd l=>
     rw[hx] at h1 h1'
     cases d<;>first|(simp[dB] at h1; done)|skip
     rename_i fs
     simp only[dB,Bool.and_eq_true,decide_eq_true_eq] at h1
     simp only[Bool.and_eq_true,Bool.not_eq_true'] at h1'
     exact⟨fs,rfl,h1.1,h1'.1,h1'.2,fun f hf=>by have:=List.all_eq_true.1 h1.2 f hf; simpa using this⟩
    |_=>rw[hx] at h1<;>cases d<;>simp_all [dB]
   ·simp only[Bool.and_eq_true] at h1
    have h1':=h1.2
    rw[hx] at h1'
    simpa using h1'
   ·rw[hz] at h5
    cases hv:i.zero with
    |none=>rw[hv] at h5; cases h5
    |some v=>rw[hv] at h5; exact⟨v,rfl,eqV_spec h5⟩
  ·cases h2
 ·cases h1
def tabB (P:Program) (T:Tab):Bool:=T.all fun p=>tyB P p.1 p.2
theorem tab_at {t:TypeId} {e:TyE}:∀(T:Tab),T.at t=some e→(t,e)∈T
 | [],h=>by cases h
 |(u,e')::r,h=>by
  simp only[Tab.at] at h
  split at h
  ·rename_i hu
   cases h; subst hu; simp
  ·exact List.mem_cons_of_mem _ (tab_at r h)
theorem tab_ok {P:Program} {T:Tab} (hp:P=Tryz.prog) (h:tabB P T=true):TabOk P T:=⟨hp,fun t e he=>
 ty_ok (List.all_eq_true.1 h (t,e) (tab_at T he))⟩
open Go.RowKit
inductive Sm:AVal→Prop where
 |ro (e:Sh) (xs:List e.ty):xs.length≤maxLen→(∀(n:Nat) x (j:Nat) c,xs[n]?=some x→(e.cells x)[j]?=some c→Sm c)→Sm (.ro e xs)
 |agg (cs:List AVal):(∀(j:Nat) c,cs[j]?=some c→Sm c)→Sm (.agg cs)
 |rp (cs:List AVal):(∀(j:Nat) c,cs[j]?=some c→Sm c)→Sm (.rp cs)
 |fn (f:FuncId) (cs:List AVal):(∀(j:Nat) c,cs[j]?=some c→Sm c)→Sm (.fn f cs)
 |other (v:AVal):(match v with|.ro _ _|.agg _|.rp _|.fn _ _=>False|_=>True)→Sm v
theorem Rep.sm {h g w} {v:AVal} {x:Value} (r:Rep h g w v x):Sm v:=by
 induction r with
 |agg cs arr hl _ ih=>exact .agg cs fun j c hc=>ih j c _ hc (Array.getElem?_eq_getElem (by have:=(List.getElem?_eq_some_iff.1 hc).1; omega))
 |fn f cs arr hl _ ih=>exact .fn f cs fun j c hc=>ih j c _ hc (Array.getElem?_eq_getElem (by have:=(List.getElem?_eq_some_iff.1 hc).1; omega))
 |ro0 e p c hc hc'=>exact .ro e [] (Nat.zero_le _) fun n x j c hn=>by simp at hn
 |ro1 e xs b o c us h0 h1 h2 hm hc _ ih=>exact .ro e xs (Nat.le_trans h1 h2) fun n x j cc hn hj=>ih n x j cc hn hj
 |rp cs b o us hm hc _ ih=>exact .rp cs fun j c hj=>ih j c hj
 |_=>exact .other _ trivial
theorem Sm.len {e:Sh} {xs:List e.ty} (h:Sm (.ro e xs)):xs.length≤maxLen:=by
 cases h with
 |ro _ _ h1 _=>exact h1
 |other _ h=>cases h
def toFsp (F:List AVal→Option AOut):Fsp:=fun _ args k=>
 match F args with
 |some o=>k o
 |none=>none
theorem toFsp_nat (F:List AVal→Option AOut) (α:Type) (args:List AVal) (k:AOut→Option α):toFsp F α args k=(toFsp F AOut args some).bind k:=by
 unfold toFsp
 cases F args<;>rfl
theorem toFsp_some {F:List AVal→Option AOut} {args:List AVal} {out:AOut} (h:toFsp F AOut args some=some out):F args=some out:=by
 unfold toFsp at h
 cases hF:F args with
 |none=>rw[hF] at h; cases h
 |some o=>rw[hF] at h; exact h
section
variable {P:Program} {T:Tab} {env:Env}
end
theorem iterL_count {σ α:Type} {f:σ→Option (LRes σ α)} (st:Nat→σ) {R:Option (LRes σ α)} (hR:∀y,R≠some (.cont y)) (n:Nat) (h:∀i,i<n→f (st i)=some (.cont (st (i+1)))) (hend:f (st n)=R) :
  ∀(m:Nat),m≤n→∀N,n-m<N→iterL N f (st m)=R:=by
 intro m hm N
 induction N generalizing m with
 |zero=>intro h; omega
 |succ N ih=>
  intro hN
  simp only[iterL]
  rcases Nat.lt_or_ge m n with hlt|hge
  ·rw[h m hlt]
   exact ih (m+1) hlt (by omega)
  ·have:m=n:=by omega
   subst this
   rw[hend]
   cases R with
   |none=>rfl
   |some r=>
    cases r with
    |cont y=>exact absurd rfl (hR y)
    |_=>rfl
theorem iterL_any {σ α:Type} {f:σ→Option (LRes σ α)} (st:Nat→σ) (p:Nat→Bool) {R E:Option (LRes σ α)} (hR:∀y,R≠some (.cont y)) (hE:∀y,E≠some (.cont y)) (n:Nat) (h:∀i,i<n→f (st i)=bif p i then R else some (.cont (st (i+1)))) (hend:f (st n)=E) :
  iterL (n+1) f (st 0)=bif (List.range n).any p then R else E:=by
 have stop:∀(Z:Option (LRes σ α)),(∀y,Z≠some (.cont y))→∀N x,f x=Z→iterL (N+1) f x=Z:=fun Z hZ N x hx=>by
  simp only[iterL,hx]
 have key:∀k,k≤n→iterL (k+1) f (st (n-k))=bif (List.range' (n-k) k).any p then R else E:=fun k=>by
  induction k with
  |zero=>intro _; exact stop E hE 0 _ hend
  |succ k ih=>
   intro hk
   have e:n-k=n-(k+1)+1:=by omega
   have hf:=h (n-(k+1)) (by omega)
   rw[List.range'_succ,List.any_cons]
   cases hp:p (n-(k+1))
   ·rw[hp] at hf
    have:=ih (by omega)
    rw[e] at this
    rw[Bool.false_or,←this]
    conv=>lhs; unfold iterL
    rw[hf]
    rfl
   ·rw[hp] at hf
    exact stop R hR _ _ hf
 have:=key n (Nat.le_refl _)
 rw[Nat.sub_self] at this
 rw[this,List.range_eq_range']
theorem iterL_find {σ α:Type} {f:σ→Option (LRes σ α)} (st:Nat→σ) (p:Nat→Bool) {R:Nat→Option (LRes σ α)} {E:Option (LRes σ α)} (hR:∀i y,R i≠some (.cont y)) (hE:∀y,E≠some (.cont y)) (n:Nat) (h:∀i,i<n→f (st i)=bif p i then R i else some (.cont (st (i+1)))) (hend:f (st n)=E) :
  iterL (n+1) f (st 0)=match (List.range n).find? p with|some i=>R i|none=>E:=by
 have stop:∀(Z:Option (LRes σ α)),(∀y,Z≠some (.cont y))→∀N x,f x=Z→iterL (N+1) f x=Z:=fun Z hZ N x hx=>by
  simp only[iterL,hx]
 have key:∀k,k≤n→iterL (k+1) f (st (n-k))=match (List.range' (n-k) k).find? p with|some i=>R i|none=>E:=fun k=>by
  induction k with
  |zero=>intro _; exact stop E hE 0 _ hend
  |succ k ih=>
   intro hk
   have e:n-k=n-(k+1)+1:=by omega
   have hf:=h (n-(k+1)) (by omega)
   rw[List.range'_succ,List.find?_cons]
   cases hp:p (n-(k+1))
   ·rw[hp] at hf
    have:=ih (by omega)
    rw[e] at this
    simp only
    rw[←this]
    conv=>lhs; unfold iterL
    rw[hf]
    rfl
   ·rw[hp] at hf
    exact stop _ (hR _) _ _ hf
 have:=key n (Nat.le_refl _)
 rw[Nat.sub_self] at this
 rw[this,List.range_eq_range']
theorem fin_not {σ α:Type} (o:Option α) (y:σ):(finL o:Option (LRes σ α))≠some (.cont y):=by
 cases o<;>simp[finL]
theorem brk_not {σ α:Type} (i:Nat) (x y:σ):(some (.brk i x):Option (LRes σ α))≠some (.cont y):=by simp
theorem any_range (xs:List Int) (q:Int→Bool):((List.range xs.length).any fun i=>q (xs.getD i 0))=xs.any q:=by
 rw[Bool.eq_iff_iff,List.any_eq_true,List.any_eq_true]
 constructor
 ·rintro⟨i,hi,hq⟩
  have hlt:=List.mem_range.1 hi
  rw[List.getD_eq_getElem?_getD,List.getElem?_eq_getElem hlt] at hq
  exact⟨_,List.getElem_mem hlt,hq⟩
 ·rintro⟨x,hx,hq⟩
  obtain⟨i,hlt,rfl⟩:=List.mem_iff_getElem.1 hx
  refine⟨i,List.mem_range.2 hlt,?_⟩
  rw[List.getD_eq_getElem?_getD,List.getElem?_eq_getElem hlt]
  exact hq
theorem wrap_small {n:Nat} (h:n≤maxLen):IntKind.i64.wrap (n:Int)=n:=by
 have h2:(n:Int)≤9223372036854775807:=Int.ofNat_le.2 h
 simp[IntKind.wrap,IntKind.bits,IntKind.signed]
 omega
end Go.Proofs.YtpgfncncgjihpaaGreat
