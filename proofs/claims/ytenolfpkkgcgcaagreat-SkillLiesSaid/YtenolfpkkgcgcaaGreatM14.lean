/- Parts of the proof, in build order. -/
import Derived.Test.YtenolfpkkgcgcaaGreatM13
import Derived.Test.YtenolfpkkgcgcaaGreatM11
import Derived.Test.YtenolfpkkgcgcaaGreatM10
import Derived.Test.YtenolfpkkgcgcaaGreatM12
namespace Go.Proofs.YtenolfpkkgcgcaaGreat
open Go.RowKit
theorem tk_names {sl bd:Int→Int→Int} {st:Nat→Int} {t el:Int} {l S':List BdI} {H:List HtI} (hl:sceB l=true) (h:tkP sl bd st t el l=some (S',H)):∀j,(S'.getD j bdD).1=(l.getD j bdD).1∧(S'.getD j bdD).2.1=(l.getD j bdD).2.1:=by
 obtain⟨S2,k,rfl⟩:=tk_keep (KpS l) (fun S k=>k.len) (kp_refl hl) (fun i S S' _ k hs=>k.glide hs) (fun a c s s' _ _ k hs=>k.pair hs) h
 intro j
 rw[getD_gn]
 have kj:=k.kp j
 unfold gnB
 cases (!(S2.getD j bdD).o&&gonB (S2.getD j bdD).x (S2.getD j bdD).y)
 ·exact⟨kj.n1,kj.n2⟩
 ·exact⟨kj.n1,kj.n2⟩
section
variable (cx cy sd w h:Int) (pb po:List Int) (fl ke sw be we:Int) (b:List BrI) (wh el:Int)
theorem sh_names:∀(n:Nat) (t:Int) (S:List BdI) (hs:List HtI) {p},sceB S=true→shP (tkV5 cx cy sd w h pb po fl ke sw be we b wh el) n t S hs=.inr p→∀j,(p.1.getD j bdD).1=(S.getD j bdD).1∧(p.1.getD j bdD).2.1=(S.getD j bdD).2.1
 |0,t,S,hs,p,hS,e=>by cases e; exact fun _=>⟨rfl,rfl⟩
 |n+1,t,S,hs,p,hS,e=>by
  rw[shP] at e
  cases ha:S.any mvg
  ·rw[ha] at e
   cases e
   exact fun _=>⟨rfl,rfl⟩
  ·rw[ha,cond_true] at e
   cases hp:tkV5 cx cy sd w h pb po fl ke sw be we b wh el t S with
   |none=>rw[hp] at e; cases e
   |some q=>
    rw[hp] at e
    simp only at e
    cases hc:decide ((hs++q.2).length≤4096)
    ·rw[hc] at e; cases e
    ·rw[hc,cond_true] at e
     have hv:=tk_valid (S':=q.1) (H:=q.2) hS hp
     have nm:=tk_names (S':=q.1) (H:=q.2) hS hp
     have ih:=sh_names n (t+1) q.1 (hs++q.2) hv.1 e
     exact fun j=>⟨(ih j).1.trans (nm j).1,(ih j).2.trans (nm j).2⟩
end
/-! Points. -/
theorem sc_team {a b:List RdI} {q:ScI} (h:q∈scL a b):(q.1=-1∧q.2.1=0)∨(q.1=0∧0≤q.2.1∧q.2.1≤16)∨(q.1=1∧0≤q.2.1∧q.2.1≤16):=by
 have hi:=scL_in h
 unfold scL at h
 rcases List.mem_append.1 h with h|h
 ·cases ht:tieB a b
  ·rw[ht] at h; cases h
  ·rw[ht,cond_true,List.mem_singleton] at h
   subst h; exact .inl ⟨rfl,rfl⟩
 ·rcases List.mem_append.1 h with h|h
  ·have:=scT_fst h
   exact .inr (.inl ⟨this.1,by omega,by omega⟩)
  ·have:=scT_fst h
   exact .inr (.inr ⟨this.1,by omega,by omega⟩)
theorem kq_mem {L:List BdI} {q:ScI} (h:q∈kqS L):(q.1=-1∧q.2.1=0)∨(q.1=0∧0≤q.2.1∧q.2.1≤16)∨(q.1=1∧0≤q.2.1∧q.2.1≤16):=by
 unfold kqS scR at h
 cases hb:bdsE (selX (sceB L) (stnL L)) (exL (selX (sceB L) (stnL L)))==0
 ·rw[hb] at h; cases h
 ·rw[hb,cond_true] at h; exact sc_team h
theorem sg_mem {L:List BdI} {q:ScI} (h:q∈kqS L):sgT 1 q=-sgT 0 q∧-16≤sgT 0 q∧sgT 0 q≤16:=by
 have e0:IntKind.i64.wrap (1-0)=1:=by decide
 have e1:IntKind.i64.wrap (1-1)=0:=by decide
 have hw:∀x:Int,0≤x∧x≤16→IntKind.i64.wrap (0-x)=-x:=fun x hx=>by rw[i64_in _ (by omega)]; omega
 unfold sgT
 rw[e0,e1]
 rcases kq_mem h with ⟨h1,h2⟩|⟨h1,h2⟩|⟨h1,h2⟩
 ·rw[h1,h2]; decide
 ·rw[h1,hw _ h2,show ((0:Int)==1)=false from rfl,show ((0:Int)==0)=true from rfl,cond_true,cond_false]; omega
 ·rw[h1,hw _ h2,show ((1:Int)==1)=true from rfl,show ((1:Int)==0)=false from rfl,cond_true,cond_false]; omega
theorem kpV_neg (L:List BdI):kpV 1 L=(kpV 0 L).map fun x=>-x:=by
 unfold kpV
 rw[List.map_map]
 exact List.map_congr_left fun q hq=>(sg_mem hq).1
theorem neg_getD (V:List Int) (i:Nat):(V.map fun x=>-x).getD i 0=-(V.getD i 0):=by
 rw[List.getD_eq_getElem?_getD,List.getElem?_map,List.getD_eq_getElem?_getD]
 cases V[i]?<;>rfl
theorem km_or (a b:Int):(kmN a b=a∨kmN a b=b)∧(kmX a b=a∨kmX a b=b):=by
 unfold kmN kmX
 constructor
 ·split
  ·exact .inr rfl
  ·exact .inl rfl
 ·split
  ·exact .inr rfl
  ·exact .inl rfl
theorem kfN_neg (V:List Int):∀i,kfN kmN (V.map fun x=>-x) i=-kfN kmX V i∧kfN kmX (V.map fun x=>-x) i=-kfN kmN V i∧kfN kmN V i≤kfN kmX V i
 |0=>⟨neg_getD V 0,neg_getD V 0,Int.le_refl _⟩
 |i+1=>by
  obtain⟨h1,h2,h3⟩:=kfN_neg V i
  have e:=neg_getD V (i+1)
  simp only[kfN,h1,h2,e]
  unfold kmN kmX
  refine⟨?_,?_,?_⟩
  ·split<;>split<;>omega
  ·split<;>split<;>omega
  ·split<;>split<;>omega
theorem kfN_in {V:List Int} (h:∀i,-16≤V.getD i 0∧V.getD i 0≤16):∀i,(-16≤kfN kmN V i∧kfN kmN V i≤16)∧-16≤kfN kmX V i∧kfN kmX V i≤16
 |0=>⟨h 0,h 0⟩
 |i+1=>by
  have ih:=kfN_in h i
  have:=h (i+1)
  simp only[kfN]
  have h1:=km_or (kfN kmN V i) (V.getD (i+1) 0)
  have h2:=km_or (kfN kmX V i) (V.getD (i+1) 0)
  omega
theorem kpV_in (L:List BdI) (i:Nat):-16≤(kpV 0 L).getD i 0∧(kpV 0 L).getD i 0≤16:=by
 rw[List.getD_eq_getElem?_getD]
 cases h:(kpV 0 L)[i]? with
 |none=>exact⟨by decide,by decide⟩
 |some v=>
  obtain⟨q,hq,rfl⟩:=List.mem_map.1 (List.mem_of_getElem? h)
  exact (sg_mem hq).2
theorem kp_turn (L:List BdI):kfL kmN (kpV 0 L)≤kfL kmX (kpV 0 L)∧kfL kmN (kpV 1 L)=IntKind.i64.wrap (0-kfL kmX (kpV 0 L))∧kfL kmX (kpV 1 L)=IntKind.i64.wrap (0-kfL kmN (kpV 0 L)):=by
 rw[kpV_neg]
 unfold kfL
 rw[List.length_map]
 obtain⟨h1,h2,h3⟩:=kfN_neg (kpV 0 L) ((kpV 0 L).length-1)
 obtain⟨h4,h5⟩:=kfN_in (kpV_in L) ((kpV 0 L).length-1)
 rw[i64_in _ (by omega),i64_in _ (by omega)]
 exact⟨h3,by omega,by omega⟩
noncomputable def fsLi:FuncId→Option Fsp:=fun g=>
 if g=15 then some kavS else
 if g=16 then some rsloS else
 if g=21 then some lgoneS else
 fsEn4 g
theorem fsLi_ok:FsOk fsLi:=
 fs_cons kavS_ok <|
 fs_cons rsloS_ok <|
 fs_cons lgoneS_ok <|
 fsEn4_ok
def liH {α:Type} (Ln:Int) (H:List HtI) (R:Option α) (x:SH):Option (LRes SH α):=
 bif decide (x.1<(H.length:Int)) then
  if 0≤x.1∧x.1<(H.length:Int) then
   bif decide ((H.getD x.1.toNat hzD).2.1<0) then finL R else
   bif decide ((H.getD x.1.toNat hzD).2.2.1≥Ln) then finL R else ahS (H.getD x.1.toNat hzD) x
  else none
 else some (.brk 0 (x.1,x.2.1,()))
def liC {α:Type} (W O:List BdI) (R:Option α) (x:Int × Unit):Option (LRes (Int × Unit) α):=
 if 0≤x.1∧x.1<(W.length:Int) then
  if 0≤x.1∧x.1<(O.length:Int) then
   bif !bdEq (W.getD x.1.toNat bdD) (O.getD x.1.toNat bdD) then finL R else some (.cont (IntKind.i64.wrap (x.1+1),()))
  else none
 else none
def liB {α:Type} (l W O:List BdI) (hit:List Bool) (R:Option α) (x:Int × Unit):Option (LRes (Int × Unit) α):=
 bif decide (x.1<(l.length:Int)) then
  if 0≤x.1∧x.1<(l.length:Int) then
   if 0≤x.1∧x.1<(hit.length:Int) then
    bif !hit.getD x.1.toNat false then
     bif !(bodB (l.getD x.1.toNat bdD).1 (l.getD x.1.toNat bdD).2.1 (l.getD x.1.toNat bdD).x (l.getD x.1.toNat bdD).y (l.getD x.1.toNat bdD).u (l.getD x.1.toNat bdD).v (l.getD x.1.toNat bdD).s&&gonB (l.getD x.1.toNat bdD).x (l.getD x.1.toNat bdD).y) then
      if 0≤x.1∧x.1<(W.length:Int) then
       bif !bdEq (W.getD x.1.toNat bdD) (l.getD x.1.toNat bdD) then finL R else liC W O R x
      else none
     else liC W O R x
    else liC W O R x
   else none
  else none
 else some (.brk 2 (x.1,()))
noncomputable def liE {α:Type} (W:List BdI) (t n e0 e1 a0 z0 a1 z1:Int) (k:AOut→Option α):Option α:=
 if 0≤IntKind.i64.wrap ((W.length:Int)-1)∧IntKind.i64.wrap ((W.length:Int)-1)<(W.length:Int) then
  bif e0==0 then bif e1==0 then bif decide (a0≤z0) then bif a1==IntKind.i64.wrap (0-z0) then bif z1==IntKind.i64.wrap (0-a0) then
   bif (W.getD (IntKind.i64.wrap ((W.length:Int)-1)).toNat bdD).1==t then k (b1 ((W.getD (IntKind.i64.wrap ((W.length:Int)-1)).toNat bdD).2.1==n)) else k (b1 false)
  else k (b1 false) else k (b1 false) else k (b1 false) else k (b1 false) else k (b1 false)
 else none
noncomputable def liT {α:Type} (N:Nat) (l W:List BdI) (T:BdI) (kE:Int) (c:Bool) (o:ShO) (t n e0 e1 a0 z0 a1 z1:Int) (k:AOut→Option α):Option α:=
 if (([]:List BdI).length+l.length)*64≤room then
  if (([]++l).length+[T].length)*64≤room then
   bif kE != 0 then k (b1 false) else bif cshZ c o != 0 then k (b1 false) else bif sceE W != 0 then k (b1 false) else
   bif !(sceB W&&!W.any mvg) then k (b1 false) else
   bif (W.length:Int) != (([]++l++[T]).length:Int) then k (b1 false) else bif ((cshL c o).length:Int) != (([]++l++[T]).length:Int) then k (b1 false) else
   if 0≤(([]++l++[T]).length:Int)∧(([]++l++[T]).length:Int)≤(([]++l++[T]).length:Int)∧(([]++l++[T]).length:Int)*((1:Nat):Int)≤(room:Int) then
    afterL (iterL N (liH (([]++l++[T]).length:Int) (cshH c o) (k (b1 false))) (0,List.replicate (([]++l++[T]).length:Int).toNat false,())) fun id y=>if id=0 then
     afterL (iterL N (liB l W (cshL c o) y.2.1 (k (b1 false))) (0,())) fun id _=>if id=2 then liE W t n e0 e1 a0 z0 a1 z1 k else none
    else none
   else none
  else none
 else none
set_option maxRecDepth 100000 in
theorem klie_text (N n0:Nat) (α:Type) (cx cy sd w h:Int) (pb po:List Int) (fl ke sw be we:Int) (el:Int) (l:List BdI) (t n x y u v s:Int) (b:List BrI) (p q:Int) (m:Int) (k:AOut→Option α):evFn real tab ((twW fsLi spL).env real tab N (n0+14)) N Tryz.f4 α [.agg [.int .i64 cx,.int .i64 cy,.int .i64 sd,.int .i64 w,.int .i64 h,.ro (.int .i64) pb,.ro (.int .i64) po,.int .i64 fl,.int .i64 ke,.int .i64 sw,.int .i64 be,.int .i64 we,.int .i64 el,.ro (.recd (.cons (.int .i64) (.cons (.int .i64) (.cons (.recd (.cons (.recd (.cons (.int .i64) (.cons (.int .i64) .nil))) (.cons (.recd (.cons (.int .i64) (.cons (.int .i64) .nil))) (.cons (.int .i64) .nil)))) (.cons .bool .nil))))) l],.agg [.int .i64 t,.int .i64 n,.int .i64 x,.int .i64 y,.int .i64 u,.int .i64 v,.int .i64 s,.ro (.recd (.cons (.int .i64) (.cons (.int .i64) (.cons (.int .i64) .nil)))) b,.int .i64 p,.int .i64 q],.int .i64 m] k =
 bif sloB cx cy sd w h pb po fl ke sw be we el l t n x y u v s b p q 200 6 then k (b1 true) else bif enJ cx cy sd w h pb po fl ke sw be we el l t n x y u v s b p q m != 0 then k (b1
 (((enW cx cy sd w h pb po fl ke sw be we el l t n x y u v s b p q m).length:Int)==0)) else liT N l (enW cx cy sd w h pb po fl ke sw be we el l t n x y u v s b p q m) ((selI
 (kthE t n x y u v s b p q m==0) t),(selI (kthE t n x y u v s b p q m==0) n),(((selI (kthE t n x y u v s b p q m==0) x),(selI (kthE t n x y u v s b p q m==0) y),()),
 ((selI (kthE t n x y u v s b p q m==0) (thU u p m)),(selI (kthE t n x y u v s b p q m==0) (thV v q m)),()),(selI (kthE t n x y u v s b p q m==0) s),()),false,()) (kthE t
 n x y u v s b p q m) (cshB cx cy sd w h pb po fl ke sw be we ([]++l++[((selI (kthE t n x y u v s b p q m==0) t),(selI (kthE t n x y u v s b p q m==0) n),(((selI (kthE t n
 x y u v s b p q m==0) x),(selI (kthE t n x y u v s b p q m==0) y),()),((selI (kthE t n x y u v s b p q m==0) (thU u p m)),(selI (kthE t n x y u v s b p q m==0) (thV v q
 m)),()),(selI (kthE t n x y u v s b p q m==0) s),()),false,())]) b (IntKind.i64.wrap ((([]++l++[((selI (kthE t n x y u v s b p q m==0) t),(selI (kthE t n x y u v s b p
 q m==0) n),(((selI (kthE t n x y u v s b p q m==0) x),(selI (kthE t n x y u v s b p q m==0) y),()),((selI (kthE t n x y u v s b p q m==0) (thU u p m)),(selI (kthE t n x
 y u v s b p q m==0) (thV v q m)),()),(selI (kthE t n x y u v s b p q m==0) s),()),false,())]).length:Int)-1)) el 6000) (shP (tkV5 cx cy sd w h pb po fl ke sw be we b
 (IntKind.i64.wrap ((([]++l++[((selI (kthE t n x y u v s b p q m==0) t),(selI (kthE t n x y u v s b p q m==0) n),(((selI (kthE t n x y u v s b p q m==0) x),(selI (kthE t
 n x y u v s b p q m==0) y),()),((selI (kthE t n x y u v s b p q m==0) (thU u p m)),(selI (kthE t n x y u v s b p q m==0) (thV v q m)),()),(selI (kthE t n x y u v s b p q
 m==0) s),()),false,())]).length:Int)-1)) el) (Int.toNat 6000) 0 ([]++l++[((selI (kthE t n x y u v s b p q m==0) t),(selI (kthE t n x y u v s b p q m==0) n),
 (((selI (kthE t n x y u v s b p q m==0) x),(selI (kthE t n x y u v s b p q m==0) y),()),((selI (kthE t n x y u v s b p q m==0) (thU u p m)),(selI (kthE t n x y u v s b p q
 m==0) (thV v q m)),()),(selI (kthE t n x y u v s b p q m==0) s),()),false,())]) []) t n (epE cx cy sd w h pb po fl ke sw be we el l t n x y u v s b p q m 0) (epE cx cy sd w
 h pb po fl ke sw be we el l t n x y u v s b p q m 1) (epP kmN cx cy sd w h pb po fl ke sw be we el l t n x y u v s b p q m 0) (epP kmX cx cy sd w h pb po fl ke sw be we el l t n x y
 u v s b p q m 0) (epP kmN cx cy sd w h pb po fl ke sw be we el l t n x y u v s b p q m 1) (epP kmX cx cy sd w h pb po fl ke sw be we el l t n x y u v s b p q m 1) k:=by kernel_rfl
theorem liT_run {α:Type} (l W:List BdI) (T:BdI) (c:Bool) (o:ShO) (H:List HtI) (T0 t n e0 e1 a0 z0 a1 z1:Int) (k:AOut→Option α) (hl:l.length<16) (hz:cshZ c o=0) (hL:cshL c o=W) (hHH:cshH c o=H) (hW:sceB W=true) (hm:W.any mvg=false) (hlen:W.length=l.length+1) (hH:HtsI (l.length+1) T0 H) (hHl:H.length≤4096)
  (hun:∀i,i<l.length→hitB H i=false→(bodB (l.getD i bdD).1 (l.getD i bdD).2.1 (l.getD i bdD).x (l.getD i bdD).y (l.getD i bdD).u (l.getD i bdD).v (l.getD i bdD).s&&gonB (l.getD i bdD).x (l.getD i bdD).y)=false→W.getD i bdD=l.getD i bdD) :
  liT (H.length+20) l W T 0 c o t n e0 e1 a0 z0 a1 z1 k=liE W t n e0 e1 a0 z0 a1 z1 k:=by
 have hroom:room≥10000:=by decide
 have hmx:maxLen=9223372036854775807:=rfl
 have eL:([]++l++[T]).length=l.length+1:=by rw[List.nil_append,List.length_append,List.length_singleton]
 unfold liT
 rw[if_pos (by rw[List.length_nil]; omega),if_pos (by rw[List.nil_append,List.length_singleton]; omega),hz,hL,hHH,eL,hlen]
 have e9:sceE W=0:=by unfold sceE; rw[hW]; rfl
 rw[e9,hW,hm,bne_self_eq_false,bne_self_eq_false]
 show (if 0≤((l.length+1:Nat):Int)∧((l.length+1:Nat):Int)≤((l.length+1:Nat):Int)∧((l.length+1:Nat):Int)*((1:Nat):Int)≤(room:Int) then
   afterL (iterL (H.length+20) (liH ((l.length+1:Nat):Int) H (k (b1 false))) (0,hA H (l.length+1) 0,())) (fun id y=>if id=0 then
     afterL (iterL (H.length+20) (liB l W W y.2.1 (k (b1 false))) (0,())) (fun id _=>if id=2 then liE W t n e0 e1 a0 z0 a1 z1 k else none)
    else none) else none)=_
 rw[if_pos ⟨by omega,by omega,by omega⟩]
 refine (count_loop (f:=liH ((l.length+1:Nat):Int) H (k (b1 false))) (fun i:Nat=>((i:Int),hA H (l.length+1) i,())) H.length (fun i hi=>?_) (y:=((H.length:Int),hA H (l.length+1) H.length,())) (b:=0) ?_ (by omega)).trans ?_
 ·have q:=hH.at' _ (mem_getD H hzD hi)
  have step:ahS (α:=α) (H.getD i hzD) ((i:Int),hA H (l.length+1) i,())=some (.cont (((i+1:Nat):Int),hA H (l.length+1) (i+1),())):=by
   unfold ahS
   simp only[List.length_set,hA_len]
   rw[if_pos ⟨by omega,by omega⟩,if_pos ⟨by omega,by omega⟩,wrap_next hi (by omega)]
   rfl
  unfold liH
  simp only[lt_len hi,cond_true,in_len hi,if_pos,and_self,Int.toNat_natCast]
  rw[show decide ((H.getD i hzD).2.1<0)=false from decide_eq_false (by omega),show decide ((H.getD i hzD).2.2.1≥((l.length+1:Nat):Int))=false from decide_eq_false (by omega)]
  exact step
 ·unfold liH
  simp only[not_lt_len,cond_false]
 ·rw[if_pos rfl]
  refine (count_loop (f:=liB l W W (hA H (l.length+1) H.length) (k (b1 false))) (fun i:Nat=>((i:Int),())) l.length (fun i hi=>?_) (y:=((l.length:Int),())) (b:=2) ?_ (by omega)).trans rfl
  ·have hi1:i<l.length+1:=by omega
   have tail:liC (α:=α) W W (k (b1 false)) ((i:Int),())=some (.cont (((i+1:Nat):Int),())):=by
    unfold liC
    simp only[hlen,in_len hi1,if_pos,and_self,Int.toNat_natCast,bdEq_refl,Bool.not_true,cond_false,wrap_next hi (by omega)]
   unfold liB
   simp only[lt_len hi,cond_true,in_len hi,if_pos,and_self,hA_len,in_len hi1,Int.toNat_natCast,tail,hlen]
   rw[hA_get hH H.length (Nat.le_refl _) i hi1,List.take_length]
   cases hh:hitB H i
   ·rw[Bool.not_false,cond_true]
    cases hg:bodB (l.getD i bdD).1 (l.getD i bdD).2.1 (l.getD i bdD).x (l.getD i bdD).y (l.getD i bdD).u (l.getD i bdD).v (l.getD i bdD).s&&gonB (l.getD i bdD).x (l.getD i bdD).y
    ·rw[hun i hi hh hg,bdEq_refl]; rfl
    ·rfl
   ·rfl
  ·unfold liB
   simp only[not_lt_len,cond_false]
theorem csh_inr {c:Bool} {o:ShO} (h:cshZ c o=0) (he:∀e,o=.inl e→e≠0):∃p,c=true∧o=.inr p:=by
 cases c
 ·exact absurd (show (2:Int)=0 from h) (by decide)
 ·cases o with
  |inl e=>exact absurd h (he e rfl)
  |inr p=>exact⟨p,rfl,rfl⟩
theorem kth_zero (cx cy sd w h:Int) (pb po:List Int) (fl ke sw be we:Int) (el:Int) (l:List BdI) (t n x y u v s:Int) (b:List BrI) (p q:Int) (m:Int) (hJ:enJ cx cy sd w h pb po fl ke sw be we el l t n x y u v s b p q m=0):kthE t n x y u v s b p q m=0:=by
 have hV:enV cx cy sd w h pb po fl ke sw be we el l t n x y u v s b p q m=true:=by
  cases hv:enV cx cy sd w h pb po fl ke sw be we el l t n x y u v s b p q m
  ·unfold enJ at hJ; rw[hv] at hJ; exact absurd (show (2:Int)=0 from hJ) (by decide)
  ·rfl
 have hE:enE cx cy sd w h pb po fl ke sw be we el l t n x y u v s b p q m=0:=by unfold enJ at hJ; rw[hV] at hJ; exact hJ
 have r5:=(enR_ok hE).2.2.2.2
 unfold enV grdB at hV
 simp only[Bool.and_eq_true] at hV
 obtain⟨⟨_,_,_,hcc,_,_⟩,hm1,hm2⟩:=hV
 unfold kthE; rw[hcc,hm1,hm2,r5]; rfl
theorem lie_true {α:Type} (cx cy sd w h:Int) (pb po:List Int) (fl ke sw be we:Int) (el:Int) (l:List BdI) (t n x y u v s:Int) (b:List BrI) (p q:Int) (m:Int) (hJ:enJ cx cy sd w h pb po fl ke sw be we el l t n x y u v s b p q m=0) (T:BdI) (z:Int) (hz:z=0) (hT:T=thB t n x y u v s p q m) (k:AOut→Option α):∃N,liT N l (enW cx cy sd w h pb po fl ke sw be we el l t n x y u v s b p q m) T z (cshB cx cy sd w h pb po fl ke sw be we ([]++l++[T]) b (IntKind.i64.wrap ((([]++l++[T]).length:Int)-1)) el 6000) (shP (tkV5 cx cy sd w h pb po fl ke sw be we b (IntKind.i64.wrap ((([]++l++[T]).length:Int)-1)) el) (Int.toNat 6000) 0 ([]++l++[T]) []) t n (epE cx cy sd w h pb po fl ke sw be we el l t n x y u v s b p q m 0) (epE cx cy sd w h pb po fl ke sw be we el l t n x y u v s b p q m 1) (epP kmN cx cy sd w h pb po fl ke sw be we el l t n x y u v s b p q m 0) (epP kmX cx cy sd w h pb po fl ke sw be we el l t n x y u v s b p q m 0) (epP kmN cx cy sd w h pb po fl ke sw be we el l t n x y u v s b p q m 1) (epP kmX cx cy sd w h pb po fl ke sw be we el l t n x y u v s b p q m 1) k=k (b1 true):=by
 have hmx:maxLen=9223372036854775807:=rfl
 have hV:enV cx cy sd w h pb po fl ke sw be we el l t n x y u v s b p q m=true:=by
  cases hv:enV cx cy sd w h pb po fl ke sw be we el l t n x y u v s b p q m
  ·unfold enJ at hJ; rw[hv] at hJ; exact absurd (show (2:Int)=0 from hJ) (by decide)
  ·rfl
 have hE:enE cx cy sd w h pb po fl ke sw be we el l t n x y u v s b p q m=0:=by unfold enJ at hJ; rw[hV] at hJ; exact hJ
 obtain⟨r1,r2,r3,r4,r5⟩:=enR_ok hE
 have eW:enW cx cy sd w h pb po fl ke sw be we el l t n x y u v s b p q m=enR cx cy sd w h pb po fl ke sw be we el l t n x y u v s b p q m:=by unfold enW; rw[hJ]; rfl
 have hB:=r4
 unfold enB nmIn at hB
 simp only[Bool.and_eq_true,Bool.not_eq_true',decide_eq_true_eq] at hB
 obtain⟨⟨hs,hst⟩,hlt,_⟩:=hB
 have hl:l.length<16:=by omega
 have ew:IntKind.i64.wrap ((([]++l++[thB t n x y u v s p q m]).length:Int)-1)=(l.length:Int):=by
  rw[List.nil_append,List.length_append,List.length_singleton,IntKind.wrap_i64]; omega
 have e1:∀tm,(tm=0∨tm=1)→epE cx cy sd w h pb po fl ke sw be we el l t n x y u v s b p q m tm=0:=fun tm h=>by
  unfold epE epV
  rw[hV,hE]
  rcases h with rfl|rfl<;>rfl
 have e2:∀op tm,(tm=0∨tm=1)→epP op cx cy sd w h pb po fl ke sw be we el l t n x y u v s b p q m tm=kfL op (kpV tm (enR cx cy sd w h pb po fl ke sw be we el l t n x y u v s b p q m)):=fun op tm h=>by unfold epP; rw[e1 tm h]; rfl
 rw[e1 0 (.inl rfl),e1 1 (.inr rfl),e2 _ 0 (.inl rfl),e2 _ 0 (.inl rfl),e2 _ 1 (.inr rfl),e2 _ 1 (.inr rfl),eW]
 subst hz hT
 rw[ew]
 show ∃N,liT N l (enR cx cy sd w h pb po fl ke sw be we el l t n x y u v s b p q m) (thB t n x y u v s p q m) 0 (enC cx cy sd w h pb po fl ke sw be we el l t n x y u v s b p q m) (enO cx cy sd w h pb po fl ke sw be we el l t n x y u v s b p q m) t n 0 0 _ _ _ _ k=_
 obtain⟨pp,hc,ho⟩:=csh_inr r3 fun e he=>by
  rcases sh_errA _ _ _ _ he with rfl|rfl<;>decide
 have eR:enR cx cy sd w h pb po fl ke sw be we el l t n x y u v s b p q m=pp.1:=by unfold enR; rw[hc,ho]; rfl
 have eHt:cshH (enC cx cy sd w h pb po fl ke sw be we el l t n x y u v s b p q m) (enO cx cy sd w h pb po fl ke sw be we el l t n x y u v s b p q m)=pp.2.2:=by rw[hc,ho]; rfl
 have hc':=hc
 unfold enC cshB ctkB at hc'
 simp only[Bool.and_eq_true] at hc'
 obtain⟨hic,hg,hsL,hb,hw,he,ht⟩:=hc'
 have hlen:(enL l t n x y u v s p q m).length=l.length+1:=by rw[List.length_append,List.length_singleton]
 obtain⟨q1,q2,q3,q4,_,q6⟩:=sh_alone cx cy sd w h pb po fl ke sw be we b (l.length:Int) el 6000 0 (enL l t n x y u v s p q m) [] (Int.le_refl 0) hsL ⟨fun x hx=>(by cases hx),fun i j _ hj=>absurd hj (Nat.not_lt_zero j)⟩ ho
 have nm:=sh_names cx cy sd w h pb po fl ke sw be we b (l.length:Int) el 6000 0 (enL l t n x y u v s p q m) [] hsL ho
 have hln:=sh_len _ _ _ _ (Nat.zero_le _) ho
 rw[hlen] at q3 q4
 have gl:∀i,i<l.length→(enL l t n x y u v s p q m).getD i bdD=l.getD i bdD:=fun i hi=>by
  rw[getD_app,if_pos hi]
 refine⟨pp.2.2.length+20,(liT_run l (enR cx cy sd w h pb po fl ke sw be we el l t n x y u v s b p q m) _ _ _ pp.2.2 pp.2.1 t n 0 0 _ _ _ _ k hl r3 (by unfold enR; rfl) eHt r1 r2 (by rw[eR]; exact q3) q4 hln fun i hi hh hgo=>?_).trans ?_⟩
 ·rw[eR,←gl i hi]
  have hbi:bdOk (l.getD i bdD)=true:=okS_of hs i
  have hgo':gonB (l.getD i bdD).x (l.getD i bdD).y=false:=by
   have hb2:bodB (l.getD i bdD).1 (l.getD i bdD).2.1 (l.getD i bdD).x (l.getD i bdD).y (l.getD i bdD).u (l.getD i bdD).v (l.getD i bdD).s=true:=hbi
   rw[hb2,Bool.true_and] at hgo; exact hgo
  have hcm:calm ((enL l t n x y u v s p q m).getD i bdD)=true:=by
   rw[gl i hi]; unfold calm; rw[hgo',Bool.not_false,Bool.or_true,Bool.or_true]
  have hrs:((l.getD i bdD).o || rstB (l.getD i bdD))=true:=by
   have:=List.any_eq_false.1 hst (l.getD i bdD) (mem_getD l bdD hi)
   unfold mvg at this
   unfold rstB
   revert this
   cases (l.getD i bdD).o<;>cases (l.getD i bdD).u==0&&((l.getD i bdD).v==0&&true)<;>decide
  have ha:=q6 i (by rw[hlen]; omega) hh hcm
  rw[al_stop _ _ _ _ _ (by rw[gl i hi]; exact hrs) hcm] at ha
  exact (Option.some.inj ha).symm
 ·have hR:(enR cx cy sd w h pb po fl ke sw be we el l t n x y u v s b p q m).length=l.length+1:=by rw[eR]; exact q3
  have nl:(enL l t n x y u v s p q m).getD l.length bdD=thB t n x y u v s p q m:=by
   rw[getD_app,if_neg (Nat.lt_irrefl _),Nat.sub_self]; rfl
  obtain⟨n1,n2⟩:=nm l.length
  rw[←eR,nl] at n1 n2
  obtain⟨k1,k2,k3⟩:=kp_turn (enR cx cy sd w h pb po fl ke sw be we el l t n x y u v s b p q m)
  unfold liE
  have ei:IntKind.i64.wrap (((enR cx cy sd w h pb po fl ke sw be we el l t n x y u v s b p q m).length:Int)-1)=(l.length:Int):=by rw[hR,IntKind.wrap_i64]; omega
  rw[ei,if_pos ⟨by omega,by rw[hR]; omega⟩,Int.toNat_natCast,k2,k3,n1,n2,decide_eq_true k1]
  simp
theorem klie_true (cx cy sd w h:Int) (pb po:List Int) (fl ke sw be we:Int) (el:Int) (l:List BdI) (t n x y u v s:Int) (b:List BrI) (p q:Int) (m:Int):∃N,evFn real tab ((twW fsLi spL).env real tab N 14) N Tryz.f4 AOut [.agg [.int .i64 cx,.int .i64 cy,.int .i64 sd,.int .i64 w,.int .i64 h,.ro (.int .i64) pb,.ro (.int .i64) po,.int .i64 fl,.int .i64 ke,.int .i64 sw,.int .i64 be,.int .i64 we,.int .i64 el,.ro (.recd (.cons (.int .i64) (.cons (.int .i64) (.cons (.recd (.cons (.recd (.cons (.int .i64) (.cons (.int .i64) .nil))) (.cons (.recd (.cons (.int .i64) (.cons (.int .i64) .nil))) (.cons (.int .i64) .nil)))) (.cons .bool .nil))))) l],.agg [.int .i64 t,.int .i64 n,.int .i64 x,.int .i64 y,.int .i64 u,.int .i64 v,.int .i64 s,.ro (.recd (.cons (.int .i64) (.cons (.int .i64) (.cons (.int .i64) .nil)))) b,.int .i64 p,.int .i64 q],.int .i64 m] some=some (b1 true):=by
 cases h1:sloB cx cy sd w h pb po fl ke sw be we el l t n x y u v s b p q 200 6
 case true=>exact⟨0,(klie_text 0 0 AOut cx cy sd w h pb po fl ke sw be we el l t n x y u v s b p q m some).trans (by rw[h1]; rfl)⟩
 cases h2:enJ cx cy sd w h pb po fl ke sw be we el l t n x y u v s b p q m != 0
 case true=>
  refine⟨0,(klie_text 0 0 AOut cx cy sd w h pb po fl ke sw be we el l t n x y u v s b p q m some).trans ?_⟩
  have e:enW cx cy sd w h pb po fl ke sw be we el l t n x y u v s b p q m=[]:=by
   unfold enW
   rw[show (enJ cx cy sd w h pb po fl ke sw be we el l t n x y u v s b p q m==0)=false from by rw[←Bool.not_eq_true']; exact h2]; rfl
  rw[h1,h2,e]; rfl
 have hJ:enJ cx cy sd w h pb po fl ke sw be we el l t n x y u v s b p q m=0:=by simpa using h2
 have hkE:=kth_zero cx cy sd w h pb po fl ke sw be we el l t n x y u v s b p q m hJ
 obtain⟨N,e⟩:=lie_true cx cy sd w h pb po fl ke sw be we el l t n x y u v s b p q m hJ ((selI (kthE t n x y u v s b p q m==0) t),(selI (kthE t n x y u v s b p q m==0) n),(((selI (kthE t n x y u v s b p q m==0) x),(selI (kthE t n x y u v s b p q m==0) y),()),((selI (kthE t n x y u v s b p q m==0) (thU u p m)),(selI (kthE t n x y u v s b p q m==0) (thV v q m)),()),(selI (kthE t n x y u v s b p q m==0) s),()),false,()) (kthE t n x y u v s b p q m) hkE (by rw[hkE]; rfl) some
 exact⟨N,(klie_text N 0 AOut cx cy sd w h pb po fl ke sw be we el l t n x y u v s b p q m some).trans (by rw[h1,h2]; exact e)⟩
noncomputable def klieF:List AVal→Option AOut
 | [.agg [.int .i64 cx,.int .i64 cy,.int .i64 sd,.int .i64 w,.int .i64 h,.ro (.int .i64) pb,.ro (.int .i64) po,.int .i64 fl,.int .i64 ke,.int .i64 sw,.int .i64 be,.int .i64 we,.int .i64 el,.ro (.recd (.cons (.int .i64) (.cons (.int .i64) (.cons (.recd (.cons (.recd (.cons (.int .i64) (.cons (.int .i64) .nil))) (.cons (.recd (.cons (.int .i64) (.cons (.int .i64) .nil))) (.cons (.int .i64) .nil)))) (.cons .bool .nil))))) l],.agg [.int .i64 t,.int .i64 n,.int .i64 x,.int .i64 y,.int .i64 u,.int .i64 v,.int .i64 s,.ro (.recd (.cons (.int .i64) (.cons (.int .i64) (.cons (.int .i64) .nil)))) b,.int .i64 p,.int .i64 q],.int .i64 m]=>some (b1 true)
 |_=>none
theorem klie_ok:FspOk Tryz.prog 4 (toFsp klieF):=tower_W fsLi_ok spL_ok ⟨Tryz.func4,fun _ _=>by kernel_rfl⟩ (toFsp_nat _) fun args out hSm hq=>by
 replace hq:=toFsp_some hq
 unfold klieF at hq
 split at hq
 ·rename_i cx cy sd w h pb po fl ke sw be we el l t n x y u v s b p q m
  cases hq
  obtain⟨N,e⟩:=klie_true cx cy sd w h pb po fl ke sw be we el l t n x y u v s b p q m
  exact⟨N,14,e⟩
 ·cases hq
end Go.Proofs.YtenolfpkkgcgcaaGreat
namespace Go.Proofs.YtenolfpkkgcgcaaGreat
def spoSh:Sh:=.recd (.cons (.int .i64) (.cons (.int .i64) .nil))
def iceSh:Sh:=.recd (.cons spoSh (.cons (.int .i64) (.cons (.int .i64) (.cons (.int .i64) (.cons (.sl (.int .i64)) (.cons (.sl (.int .i64)) .nil))))))
def graSh:Sh:=.recd (.cons (.int .i64) (.cons (.int .i64) (.cons (.int .i64) (.cons (.int .i64) (.cons (.int .i64) .nil)))))
def movSh:Sh:=.recd (.cons spoSh (.cons spoSh (.cons (.int .i64) .nil)))
def broSh:Sh:=.recd (.cons (.int .i64) (.cons (.int .i64) (.cons (.int .i64) .nil)))
def bdySh:Sh:=.recd (.cons (.int .i64) (.cons (.int .i64) (.cons movSh (.cons .bool .nil))))
end Go.Proofs.YtenolfpkkgcgcaaGreat
