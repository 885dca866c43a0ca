/- Parts of the proof, in build order. -/
import Derived.Test.YtbkpklfjoifdbaaGreatM11
import Derived.Test.YtbkpklfjoifdbaaGreatM10
import Derived.Test.YtbkpklfjoifdbaaGreatM8
import Derived.Test.YtbkpklfjoifdbaaGreatM9
namespace Go.Proofs.YtbkpklfjoifdbaaGreat
open Go.RowKit
theorem boA_pb (x:PB):boA (pbA x)=true:=rfl
theorem boG_pb (x:PB) (q:Nat):boG (pbA x) q=pbG x q:=by
 have e:pbA x=(pbL x).map AVal.bool:=rfl
 unfold boG pbG
 rw [e,List.getD_eq_getElem?_getD,List.getD_eq_getElem?_getD,List.getElem?_map]
 cases (pbL x)[q]?<;>rfl
def inA (s:List RdI) (t:Nat) (d:Int) (q:Nat):Bool:=decide (1 + 17 * t + max 1 (mustN s d)≤q)&&decide (q < 1 + 17 * t + max 1 (mustN s d) + rndC s d)
def mrcnF (s:List RdI) (t:Nat) (L:List Int) (c:Nat→Bool) (q:Nat):Bool:=c q || L.any fun d=>inA s t d q
theorem cnF_nil (s:List RdI) (t:Nat) (c:Nat→Bool):mrcnF s t [] c=c:=by
 funext q
 exact Bool.or_false _
theorem cnF_add (s:List RdI) (t:Nat) (L:List Int) (d:Int) (c:Nat→Bool):cnA s t d (mrcnF s t L c)=mrcnF s t (L++[d]) c:=by
 funext q
 unfold mrcnF
 rw [List.any_append]
 show ((c q || L.any fun d=>inA s t d q) || inA s t d q)=_
 rw [Bool.or_assoc]
 congr 1
 simp
theorem coK_eq {β:Type} (l:List SnI) (b:List RdI) {t:Nat} (ht:t < 2) (hb:l.length≤b.length) (hl:l.length≤16) (d:Int) (L:List Int) (c:Nat→Bool) (K:PB→Option β):coK l b (t:Int) d (pbM (mrcnF (tmL l b t) t L c)) K=K (pbM (mrcnF (tmL l b t) t (L++[d]) c)):=by
 unfold coK
 rw [boA_pb,decide_eq_true hb,decide_eq_true hl,decide_eq_true (show (0:Int)≤(t:Int) by omega),decide_eq_true (show (t:Int) < 2 by omega)]
 rw [show (true&&(true&&(true&&(true&&true))))=true from rfl,cond_true,Int.toNat_natCast,← cnF_add]
 have e:pbM (cnA (tmL l b t) t d (boG (pbA (pbM (mrcnF (tmL l b t) t L c)))))=pbM (cnA (tmL l b t) t d (mrcnF (tmL l b t) t L c)):=pbM_congr fun q hq=>by
  unfold cnA cnI
  rw [boG_pb,pbG_M _ hq]
 rw [e]
def liP (m M d:Int):Bool:=decide (d ≥ m)&&decide (d < M)
def limT (o:List RdI) (r:RdI):List Int:=[r.lo].filter (liP (minLo o - 1) (minHi o))++[r.hi].filter (liP (minLo o - 1) (minHi o))
theorem co_if {β:Type} (l:List SnI) (b:List RdI) {t:Nat} (ht:t < 2) (hb:l.length≤b.length) (hl:l.length≤16) (m M d:Int) (L:List Int) (c:Nat→Bool) (K:PB→Option β):(bif decide (d ≥ m) then bif decide (d < M) then coK l b (t:Int) d (pbM (mrcnF (tmL l b t) t L c)) K else K (pbM (mrcnF (tmL l b t) t L c)) else K (pbM (mrcnF (tmL l b t) t L c)))=K (pbM (mrcnF (tmL l b t) t (L++[d].filter (liP m M)) c)):=by
 have e:[d].filter (liP m M)=bif decide (d ≥ m) then bif decide (d < M) then [d] else [] else []:=by
  rw [List.filter_cons]
  unfold liP
  cases decide (d ≥ m)<;>cases decide (d < M)<;>rfl
 rw [e]
 cases decide (d ≥ m)
 ·rw [cond_false,cond_false,List.append_nil]
 ·cases decide (d < M)
  ·rw [cond_true,cond_true,cond_false,cond_false,List.append_nil]
  ·exact coK_eq l b ht hb hl d L c K
theorem mrminLo_le (l:List RdI):minLo l≤129368065:=by
 have h:∀ (l:List RdI) (a:Int),l.foldl (fun a r=>min a r.lo) a≤a:=by
  intro l
  induction l with
  | nil=>exact fun a=>Int.le_refl a
  | cons r l ih=>exact fun a=>Int.le_trans (ih _) (Int.min_le_left _ _)
 exact h l _
theorem tiF_eq {α:Type} (l:List SnI) (b o:List RdI) {t:Nat} (ht:t < 2) (hb:l.length≤b.length) (hl:l.length≤16) (ho:0≤minLo o) (L:List Int) (c:Nat→Bool) {i:Nat} (hi:i < l.length) :
  tiF (α:=α) l b (t:Int) o ((i:Int),pbM (mrcnF (tmL l b t) t (L++(tmN l b t i).flatMap (limT o)) c))=some (.cont (((i + 1:Nat):Int),pbM (mrcnF (tmL l b t) t (L++(tmN l b t (i + 1)).flatMap (limT o)) c))):=by
 have hmx:l.length≤maxLen:=by have:maxLen=9223372036854775807:=rfl; omega
 have h1:=mrminLo_le o
 unfold tiF stE rdG
 simp only [lt_len hi,cond_true,in_len hi,in_len (show i < b.length by omega),if_pos,and_self,Int.toNat_natCast,wrap_next hi hmx,tmN_succ,w64_small (show (-1:Int)≤minLo o - 1 by omega) (by omega)]
 show (bif !((l.getD i snD).1==(t:Int)) then _ else bif decide ((b.getD i rdD).lo ≥ minLo o - 1) then bif decide ((b.getD i rdD).lo < minHi o) then _ else _ else _)=_
 cases (l.getD i snD).1==(t:Int)
 ·rfl
 ·rw [Bool.not_true,cond_false,cond_true,List.flatMap_append]
  refine (co_if l b ht hb hl (minLo o - 1) (minHi o) (b.getD i rdD).lo (L++(tmN l b t i).flatMap (limT o)) c _).trans ?_
  refine (co_if l b ht hb hl (minLo o - 1) (minHi o) (b.getD i rdD).hi _ c _).trans ?_
  rw [show [b.getD i rdD].flatMap (limT o)=limT o (b.getD i rdD) by simp [List.flatMap_cons]]
  unfold limT
  rw [List.append_assoc,List.append_assoc]
def tabL (s o:List RdI):List Int:=(bif awB o then [129368064] else [])++bif decide (minLo o > minHi o) then [] else (minLo o - 1) :: s.flatMap (limT o)
theorem tiF_run {α:Type} {N:Nat} (hN:20≤N) (l:List SnI) (b o:List RdI) {t:Nat} (ht:t < 2) (hb:l.length≤b.length) (hl:l.length≤16) (ho:0≤minLo o) (L:List Int) (c:Nat→Bool) (K:Nat→Int × PB→Option α):afterL (iterL N (tiF l b (t:Int) o) (0,pbM (mrcnF (tmL l b t) t L c))) K=K 2 ((l.length:Int),pbM (mrcnF (tmL l b t) t (L++(tmL l b t).flatMap (limT o)) c)):=by
 have run:=count_loop (f:=tiF l b (t:Int) o) (K:=K) (fun i=>((i:Int),pbM (mrcnF (tmL l b t) t (L++(tmN l b t i).flatMap (limT o)) c))) l.length (fun i hi=>tiF_eq l b o ht hb hl ho L c hi) (y:=((l.length:Int),pbM (mrcnF (tmL l b t) t (L++(tmL l b t).flatMap (limT o)) c))) (b:=2) (by
  unfold tiF
  simp only [not_lt_len,cond_false]
  rfl) (N:=N) (by omega)
 have e0:L++(tmN l b t 0).flatMap (limT o)=L:=List.append_nil L
 exact Eq.trans (congrArg (fun L'=>afterL (iterL N (tiF l b (t:Int) o) (0,pbM (mrcnF (tmL l b t) t L' c))) K) e0.symm) run
theorem tr_rest {α:Type} {N:Nat} (hN:20≤N) (l:List SnI) (b o:List RdI) {t:Nat} (ht:t < 2) (hb:l.length≤b.length) (hl:l.length≤16) (ho:0≤minLo o) (L:List Int) (c:Nat→Bool) (D:PB→Option (LRes (Int × PB) α)) :
  (bif decide (minLo o > minHi o) then D (pbM (mrcnF (tmL l b t) t L c)) else coK l b (t:Int) (IntKind.i64.wrap (minLo o - 1)) (pbM (mrcnF (tmL l b t) t L c)) fun z=>afterL (iterL N (tiF l b (t:Int) o) (0,z)) fun id w=>if id=2 then D w.2 else none)=D (pbM (mrcnF (tmL l b t) t (L++bif decide (minLo o > minHi o) then [] else (minLo o - 1) :: (tmL l b t).flatMap (limT o)) c)):=by
 have h1:=mrminLo_le o
 cases decide (minLo o > minHi o)
 ·rw [cond_false,cond_false,w64_small (by omega) (by omega),coK_eq l b ht hb hl,tiF_run hN l b o ht hb hl ho,if_pos rfl,List.append_assoc]
  rfl
 ·rw [cond_true,cond_true,List.append_nil]
theorem trF_eq {α:Type} {N:Nat} (hN:20≤N) (l:List SnI) (b:List RdI) {t:Nat} (ht:t < 2) (hb:l.length≤b.length) (hl:l.length≤16) (h0:0≤minLo (tmL l b 0)) (h1:0≤minLo (tmL l b 1)) (c:Nat→Bool) :
  trF (α:=α) N l b ((t:Int),pbM c)=some (.cont (((t + 1:Nat):Int),pbM (mrcnF (tmL l b t) t (tabL (tmL l b t) (tmL l b ((1 - t:Nat):Int))) c))):=by
 have ho:0≤minLo (tmL l b ((1 - t:Nat):Int)):=by
  rcases (show t=0∨t=1 by omega) with rfl | rfl
  ·exact h1
  ·exact h0
 have e:trF (α:=α) N l b ((t:Int),pbM c)=(
   let D:PB→Option (LRes (Int × PB) α):=fun z=>some (.cont (((t + 1:Nat):Int),z))
   let o:=tmL l b ((1 - t:Nat):Int)
   let Y:=fun (y:PB)=>bif decide (minLo o > minHi o) then D y else coK l b t (IntKind.i64.wrap (minLo o - 1)) y fun z=>afterL (iterL N (tiF l b t o) (0,z)) fun id w=>if id=2 then D w.2 else none
   bif awB o then coK l b t 129368064 (pbM c) Y else Y (pbM c)):=by
  unfold trF
  rcases (show t=0∨t=1 by omega) with rfl | rfl
  ·rfl
  ·rfl
 rw [e]
 simp only []
 unfold tabL
 have e0:pbM c=pbM (mrcnF (tmL l b t) t [] c):=by rw [cnF_nil]
 rw [e0]
 cases awB (tmL l b ((1 - t:Nat):Int))
 ·rw [cond_false]
  refine (tr_rest hN l b _ ht hb hl ho [] c fun z=>some (.cont (((t + 1:Nat):Int),z))).trans ?_
  rfl
 ·rw [cond_true,coK_eq l b ht hb hl]
  refine (tr_rest hN l b _ ht hb hl ho ([]++[129368064]) c fun z=>some (.cont (((t + 1:Nat):Int),z))).trans ?_
  rfl
def tabC (p o:List RdI):Nat→Bool:=mrcnF o 1 (tabL o p) (mrcnF p 0 (tabL p o) fun q=>bif q==0 then tieB p o else false)
theorem tlK_eq {α:Type} {N:Nat} (hN:20≤N) (l:List SnI) (b:List RdI) (hb:l.length≤b.length) (hl:l.length≤16) (h0:0≤minLo (tmL l b 0)) (h1:0≤minLo (tmL l b 1)) (n:Bool) (hn:n=tieB (tmL l b 0) (tmL l b 1)) (k:AOut→Option α):tlK N l b n k=k (.ret (agB (tabC (tmL l b 0) (tmL l b 1)))):=by
 subst hn
 unfold tlK
 have run:=count_loop (f:=trF N l b) (K:=fun id y=>if id=0 then k (.ret (agB (pbG y.2))) else none)
  (fun j=>((j:Int),pbM (match j with
   | 0=>fun q=>bif q==0 then tieB (tmL l b 0) (tmL l b 1) else false
   | 1=>mrcnF (tmL l b 0) 0 (tabL (tmL l b 0) (tmL l b 1)) fun q=>bif q==0 then tieB (tmL l b 0) (tmL l b 1) else false
   | _=>tabC (tmL l b 0) (tmL l b 1)))) 2 (fun j hj=>by
     rcases (show j=0∨j=1 by omega) with rfl | rfl
     ·exact trF_eq hN l b (t:=0) (by omega) hb hl h0 h1 _
     ·exact trF_eq hN l b (t:=1) (by omega) hb hl h0 h1 _) (y:=(2,pbM (tabC (tmL l b 0) (tmL l b 1)))) (b:=0) (by
     unfold trF
     rfl) (N:=N) (by omega)
 refine run.trans ?_
 rw [if_pos rfl]
 exact congrArg k (congrArg AOut.ret (agB_congr fun q hq=>pbG_M _ hq))
theorem tie_eq (p q:List RdI):tieC p q=decide (max (minLo p) (minLo q)≤min (minHi p) (minHi q)):=by
 unfold tieC
 refine decide_eq_decide.2 ?_
 rw [show (if minLo p < minLo q then minLo q else minLo p)=max (minLo p) (minLo q) by split<;>omega,show (if minHi q < minHi p then minHi q else minHi p)=min (minHi p) (minHi q) by split<;>omega]
theorem rta_plain {α:Type} {N:Nat} (hN:20≤N) (l:List SnI) (b:List RdI) (hb:l.length≤b.length) (hl:l.length≤16) (h0:0≤minLo (tmL l b 0)) (h1:0≤minLo (tmL l b 1)) (k:AOut→Option α):rtX N l b k=k (.ret (agB (tabC (tmL l b 0) (tmL l b 1)))):=by
 unfold rtX
 rw [decide_eq_true hb,decide_eq_true hl,Bool.and_true,cond_true,cond_true]
 cases ha:awB (tmL l b 0)
 ·rw [cond_false]
  exact tlK_eq hN l b hb hl h0 h1 _ (by unfold tieB; rw [ha,tie_eq]; rfl) k
 ·cases hc:awB (tmL l b 1)
  ·rw [cond_true,cond_false]
   exact tlK_eq hN l b hb hl h0 h1 _ (by unfold tieB; rw [ha,hc,tie_eq]; rfl) k
  ·rw [cond_true,cond_true]
   exact tlK_eq hN l b hb hl h0 h1 _ (by unfold tieB; rw [ha,hc]; rfl) k
def rtaB (l:List SnI) (b:List RdI):Bool:=(decide (l.length≤b.length)&&decide (l.length≤16))&&(decide (0≤minLo (tmL l b 0))&&decide (0≤minLo (tmL l b 1)))
noncomputable def rtaS:Fsp:=fun _ args k=>match args with
 | [.ro (.recd (.cons (.int .i64) (.cons (.int .i64) (.cons (.recd (.cons (.int .i64) (.cons (.int .i64) .nil))) .nil)))) l,.ro (.recd (.cons (.int .i64) (.cons (.int .i64) (.cons (.int .i64) .nil)))) b]=>bif rtaB l b then k (.ret (agB (tabC (tmL l b 0) (tmL l b 1)))) else none
 | _=>none
theorem rtaS_ok:FspOk Tryz.prog 115 rtaS:=tower_Y fsR3_ok spM0_ok ⟨Tryz.func115,fun _ _=>by kernel_rfl⟩ (by intro α args k; unfold rtaS; split<;>simp only [cond_bind,Option.bind_some,Option.bind_none]) fun args out hSm hEq=>by
 unfold rtaS at hEq
 split at hEq
 ·rename_i l b
  cases hc:rtaB l b
  ·rw [hc] at hEq; cases hEq
  ·rw [hc] at hEq
   unfold rtaB at hc
   simp only [Bool.and_eq_true,decide_eq_true_eq] at hc
   exact ⟨20,12,((rta_all 20 0 AOut l b some).trans (rta_plain (Nat.le_refl _) l b hc.1.1 hc.1.2 hc.2.1 hc.2.2 some)).trans hEq⟩
 ·cases hEq
/-! Its cells: the scores. -/
theorem tab_any (s o:List RdI) (p:Int→Bool):(tabL s o).any p=(lims s o).any p:=by
 unfold tabL lims
 rw [List.any_append,List.any_append]
 congr 1
 by_cases h:minLo o≤minHi o
 ·rw [decide_eq_true h,decide_eq_false (show ¬ minLo o > minHi o by omega),cond_true,cond_false,List.any_cons,List.any_cons]
  cases h0:p (minLo o - 1)
  ·rw [Bool.false_or,Bool.false_or]
   have hb:∀ x y:Bool,(x=true↔y=true)→x=y:=by decide
   refine hb _ _ ?_
   rw [List.any_eq_true,List.any_eq_true]
   constructor
   ·rintro ⟨d,hd,hp⟩
    obtain ⟨r,hr,hd⟩:=List.mem_flatMap.1 hd
    refine ⟨d,List.mem_flatMap.2 ⟨r,hr,?_⟩,hp⟩
    unfold limT at hd
    rw [← List.filter_append] at hd
    obtain ⟨h1,h2⟩:=List.mem_filter.1 hd
    unfold liP at h2
    rw [Bool.and_eq_true,decide_eq_true_eq,decide_eq_true_eq] at h2
    have h3:d≠minLo o - 1:=fun e=>by rw [e,h0] at hp; cases hp
    exact List.mem_filter.2 ⟨h1,by rw [Bool.and_eq_true,decide_eq_true_eq,decide_eq_true_eq]; omega⟩
   ·rintro ⟨d,hd,hp⟩
    obtain ⟨r,hr,hd⟩:=List.mem_flatMap.1 hd
    refine ⟨d,List.mem_flatMap.2 ⟨r,hr,?_⟩,hp⟩
    obtain ⟨h1,h2⟩:=List.mem_filter.1 hd
    rw [Bool.and_eq_true,decide_eq_true_eq,decide_eq_true_eq] at h2
    unfold limT
    rw [← List.filter_append]
    exact List.mem_filter.2 ⟨h1,by unfold liP; rw [Bool.and_eq_true,decide_eq_true_eq,decide_eq_true_eq]; omega⟩
  ·rfl
 ·rw [decide_eq_false h,decide_eq_true (show minLo o > minHi o by omega)]
  rfl
theorem inA_at (s:List RdI) (hs:s.length≤16) {t u:Nat} (ht:t < 2) (hu:u < 2) (d:Int) {n:Nat} (h1:1≤n) (h2:n≤16):inA s t d (1 + 17 * u + n)=(decide (t=u)&&(decide (max 1 (mustN s d)≤n)&&decide (n≤canN s d))):=by
 have hc:=canN_le s d
 unfold inA rndC
 rw [← Bool.decide_and,← Bool.decide_and,← Bool.decide_and]
 refine decide_eq_decide.2 ?_
 omega
theorem tabC_0 (p o:List RdI):tabC p o 0=tieB p o:=by
 have hz:∀ s t d,inA s t d 0=false:=fun s t d=>by
  unfold inA
  rw [decide_eq_false (show ¬ 1 + 17 * t + max 1 (mustN s d)≤0 by omega)]; rfl
 have ha:∀ s t (L:List Int),(L.any fun d=>inA s t d 0)=false:=fun s t L=>by
  rw [List.any_eq_false]
  exact fun d _=>by rw [hz]; exact Bool.noConfusion
 unfold tabC mrcnF
 rw [ha,ha,Bool.or_false,Bool.or_false]
 rfl
theorem tabC_at (p o:List RdI) (hp:p.length≤16) (ho:o.length≤16) {u:Nat} (hu:u < 2) {n:Nat} (h1:1≤n) (h2:n≤16):tabC p o (1 + 17 * u + n)=bif u==0 then msB p o n else msB o p n:=by
 unfold tabC mrcnF
 rw [tab_any,tab_any]
 show (((bif (1 + 17 * u + n)==0 then tieB p o else false) || _) || _)=_
 rw [show ((1 + 17 * u + n:Nat)==0)=false from beq_eq_false_iff_ne.2 (by omega),cond_false,Bool.false_or]
 have hf:∀ (L:List Int),(L.any fun _=>false)=false:=fun L=>by rw [List.any_eq_false]; exact fun _ _=>Bool.noConfusion
 rcases (show u=0∨u=1 by omega) with rfl | rfl
 ·have e1:∀ d,inA p 0 d (1 + 17 * 0 + n)=(decide (max 1 (mustN p d)≤n)&&decide (n≤canN p d)):=fun d=>inA_at p hp (by omega) (by omega) d h1 h2
  have e2:∀ d,inA o 1 d (1 + 17 * 0 + n)=false:=fun d=>inA_at o ho (by omega) (by omega) d h1 h2
  simp only [e1,e2,hf,Bool.or_false]
  rfl
 ·have e1:∀ d,inA o 1 d (1 + 17 * 1 + n)=(decide (max 1 (mustN o d)≤n)&&decide (n≤canN o d)):=fun d=>inA_at o ho (by omega) (by omega) d h1 h2
  have e2:∀ d,inA p 0 d (1 + 17 * 1 + n)=false:=fun d=>inA_at p hp (by omega) (by omega) d h1 h2
  simp only [e1,e2,hf,Bool.false_or]
  rfl
noncomputable def fsR4:FuncId→Option Fsp:=fun g=>
 if g=114 then some rmbdS else
 if g=115 then some rtaS else
 fsR3 g
theorem fsR4_ok:FsOk fsR4:=
 fs_cons rmbdS_ok <|
 fs_cons rtaS_ok <|
 fsR3_ok
abbrev SciS:=List ScI × Int × Unit
def rsI {α:Type} (c:Nat→Bool) (t:Int) (x:SciS):Option (LRes SciS α):=
 bif decide (x.2.1≤16) then
  if 0≤t∧t < ((2:Nat):Int) then
   chB 2 0 t fun i=>if 0≤x.2.1∧x.2.1 < ((17:Nat):Int) then chB 17 0 x.2.1 fun j=>
    bif c (1 + 17 * i + j) then if (x.1.length + [(t,x.2.1,())].length) * 16≤room then some (.cont (x.1++[(t,x.2.1,())],IntKind.i64.wrap (x.2.1 + 1),())) else none
    else some (.cont (x.1,IntKind.i64.wrap (x.2.1 + 1),())) else none
  else none
 else some (.brk 2 (x.1,x.2.1,()))
def rsO {α:Type} (N:Nat) (c:Nat→Bool) (x:SciS):Option (LRes SciS α):=
 bif decide (x.2.1 < 2) then
  afterL (iterL N (rsI c x.2.1) (x.1,1,())) fun id y=>if id=2 then some (.cont (y.1,IntKind.i64.wrap (x.2.1 + 1),())) else none
 else some (.brk 0 (x.1,x.2.1,()))
def mrrsE {α:Type} (N:Nat) (c:Nat→Bool) (s:List ScI) (k:AOut→Option α):Option α:=
 afterL (iterL N (rsO N c) (s,0,())) fun id y=>if id=0 then k (.ret (.tup [.ro nmSh y.1,.int .i64 0])) else none
set_option maxRecDepth 100000 in
theorem rss_text (N n0:Nat) (α:Type) (l:List SnI) (r:List RdI) (k:AOut→Option α):evFn real tab ((twY fsR4 spM0).env real tab N (n0 + 12)) N Tryz.f69 α [.ro SnSh l,.ro RdSh r] k =
 bif bdsE l r != 0 then k (.ret (.tup [.ro nmSh [],.int .i64 (bdsE l r)])) else bif rtaB l (bdsR l r) then bif tabC (tmL l (bdsR l r) 0) (tmL l (bdsR l r) 1) 0 then mrrsE N (tabC
 (tmL l (bdsR l r) 0) (tmL l (bdsR l r) 1)) ([]++[(-1,0,())]) k else mrrsE N (tabC (tmL l (bdsR l r) 0) (tmL l (bdsR l r) 1)) [] k else none:=by kernel_rfl
def scTN (s o:List RdI) (t:Int) (i:Nat):List ScI:=((List.range i).filter fun i=>msB s o (i + 1)).map fun i=>(t,((i + 1:Nat):Int),())
theorem scTN_succ (s o:List RdI) (t:Int) (i:Nat):scTN s o t (i + 1)=bif msB s o (i + 1) then scTN s o t i++[(t,((i + 1:Nat):Int),())] else scTN s o t i:=by
 unfold scTN
 rw [List.range_succ,List.filter_append,List.map_append]
 cases h:msB s o (i + 1)
 ·have:List.filter (fun i=>msB s o (i + 1)) [i]=[]:=by simp [h]
  rw [this]; exact List.append_nil _
 ·have:List.filter (fun i=>msB s o (i + 1)) [i]=[i]:=by simp [h]
  rw [this]; rfl
theorem scTN_len (s o:List RdI) (t:Int) (i:Nat):(scTN s o t i).length≤i:=by
 unfold scTN
 rw [List.length_map]
 exact Nat.le_trans (List.length_filter_le _ (List.range i)) (by rw [List.length_range]; exact Nat.le_refl i)
theorem rsI_eq {α:Type} {p o:List RdI} (hp:p.length≤16) (ho:o.length≤16) {u:Nat} (hu:u < 2) {s q:List RdI} (hs:(bif u==0 then p else o)=s) (hq:(bif u==0 then o else p)=q) {D:List ScI} (hD:D.length≤100) {i:Nat} (hi:i < 16) :
  rsI (α:=α) (tabC p o) (u:Int) (D++scTN s q (u:Int) i,((i + 1:Nat):Int),())=some (.cont (D++scTN s q (u:Int) (i + 1),((i + 1 + 1:Nat):Int),())):=by
 have hl:=scTN_len s q (u:Int) i
 have hr:((D++scTN s q (u:Int) i).length + [((u:Int),((i + 1:Nat):Int),())].length) * 16≤room:=by
  rw [List.length_append]
  simp only [room,List.length_cons,List.length_nil]; omega
 unfold rsI
 simp only []
 rw [decide_eq_true (show ((i + 1:Nat):Int)≤16 by omega),cond_true,if_pos (show (0:Int)≤(u:Int)∧(u:Int) < ((2:Nat):Int) by omega),chB_at _ 2 0 (by omega) (by omega),if_pos (by omega),chB_at _ 17 0 (by omega) (by omega),if_pos hr,w64_small (by omega) (by omega),tabC_at p o hp ho hu (by omega) (by omega),scTN_succ]
 have e:(bif u==0 then msB p o (i + 1) else msB o p (i + 1))=msB s q (i + 1):=by
  subst hs; subst hq
  cases u==0<;>rfl
 have e1:((i + 1:Nat):Int) + 1=((i + 1 + 1:Nat):Int):=by omega
 rw [e,e1]
 cases msB s q (i + 1)
 ·rfl
 ·rw [cond_true,cond_true,List.append_assoc]
theorem rsI_run {α:Type} {N:Nat} (hN:20≤N) {p o:List RdI} (hp:p.length≤16) (ho:o.length≤16) {u:Nat} (hu:u < 2) {s q:List RdI} (hs:(bif u==0 then p else o)=s) (hq:(bif u==0 then o else p)=q) {D:List ScI} (hD:D.length≤100) (K:Nat→SciS→Option α):afterL (iterL N (rsI (tabC p o) (u:Int)) (D,1,())) K=K 2 (D++scT s q (u:Int),17,()):=by
 have run:=count_loop (f:=rsI (tabC p o) (u:Int)) (K:=K) (fun i=>(D++scTN s q (u:Int) i,((i + 1:Nat):Int),())) 16 (fun i hi=>rsI_eq hp ho hu hs hq hD hi) (y:=(D++scT s q (u:Int),17,())) (b:=2) (by
  unfold rsI
  rfl) (N:=N) (by omega)
 have e0:D++scTN s q (u:Int) 0=D:=List.append_nil D
 exact Eq.trans (congrArg (fun D'=>afterL (iterL N (rsI (tabC p o) (u:Int)) (D',1,())) K) e0.symm) run
theorem rsE_eq {α:Type} {N:Nat} (hN:20≤N) {p o:List RdI} (hp:p.length≤16) (ho:o.length≤16) {D:List ScI} (hD:D.length≤50) (k:AOut→Option α):mrrsE N (tabC p o) D k=k (.ret (.tup [.ro nmSh (D++(scT p o 0++scT o p 1)),.int .i64 0])):=by
 have h16:(scT p o 0).length≤16:=scTN_len p o 0 16
 unfold mrrsE
 have run:=count_loop (f:=rsO N (tabC p o)) (K:=fun id y=>if id=0 then k (.ret (.tup [.ro nmSh y.1,.int .i64 0])) else none)
  (fun j=>(match j with
   | 0=>(D,0,())
   | 1=>(D++scT p o 0,1,())
   | _=>(D++(scT p o 0++scT o p 1),2,()))) 2 (fun j hj=>by
     rcases (show j=0∨j=1 by omega) with rfl | rfl
     ·show rsO N (tabC p o) (D,((0:Nat):Int),())=_
      unfold rsO
      rw [show decide (((D,((0:Nat):Int),()):SciS).2.1 < 2)=true from rfl,cond_true]
      refine (rsI_run hN hp ho (u:=0) (by omega) (s:=p) (q:=o) rfl rfl (show D.length≤100 by omega) _).trans ?_
      rfl
     ·show rsO N (tabC p o) (D++scT p o 0,((1:Nat):Int),())=_
      unfold rsO
      rw [show decide (((D++scT p o 0,((1:Nat):Int),()):SciS).2.1 < 2)=true from rfl,cond_true]
      refine (rsI_run hN hp ho (u:=1) (by omega) (s:=o) (q:=p) rfl rfl (by rw [List.length_append]; omega) _).trans ?_
      rw [if_pos rfl,List.append_assoc]
      rfl) (y:=(D++(scT p o 0++scT o p 1),2,())) (b:=0) (by
     unfold rsO
     rfl) (N:=N) (by omega)
 refine run.trans ?_
 rw [if_pos rfl]
theorem rss_plain {α:Type} (l:List SnI) (r:List RdI) (k:AOut→Option α):(bif bdsE l r != 0 then k (.ret (.tup [.ro nmSh [],.int .i64 (bdsE l r)])) else
  bif rtaB l (bdsR l r) then
   bif tabC (tmL l (bdsR l r) 0) (tmL l (bdsR l r) 1) 0 then mrrsE 20 (tabC (tmL l (bdsR l r) 0) (tmL l (bdsR l r) 1)) ([]++[(-1,0,())]) k else mrrsE 20 (tabC (tmL l (bdsR l r) 0) (tmL l (bdsR l r) 1)) [] k
  else none)=k (.ret (.tup [.ro nmSh (scR l r),.int .i64 (bdsE l r)])):=by
 by_cases h:bdsE l r=0
 ·have eR:bdsR l r=bndM l.length r:=by unfold bdsR; rw [h]; rfl
  have eS:scR l r=scL (tmL l (bndM l.length r) 0) (tmL l (bndM l.length r) 1):=by unfold scR; rw [h]; rfl
  rw [eR,eS,h]
  have g0:=tm_good h 0
  have g1:=tm_good h 1
  have hl:l.length≤16:=by
   unfold bdsE at h
   cases q1:decide (r.length≤256)
   ·rw [q1] at h; cases h
   rw [q1,cond_true] at h
   cases q2:snsB l
   ·rw [q2] at h; cases h
   ·exact (snsB_at q2).1
  have hB:rtaB l (bndM l.length r)=true:=by
   unfold rtaB
   rw [bndM_len,decide_eq_true (Nat.le_refl _),decide_eq_true hl,decide_eq_true (minLo_in g0).1,decide_eq_true (minLo_in g1).1]
   rfl
  rw [hB,show ((0:Int) != 0)=false from rfl,cond_false,cond_true,tabC_0]
  unfold scL
  cases tieB (tmL l (bndM l.length r) 0) (tmL l (bndM l.length r) 1)
  ·exact rsE_eq (Nat.le_refl _) g0.1 g1.1 (by simp) k
  ·exact rsE_eq (Nat.le_refl _) g0.1 g1.1 (by simp) k
 ·have eS:scR l r=[]:=by unfold scR; rw [show (bdsE l r==0)=false by simpa using h]; rfl
  rw [eS,show (bdsE l r != 0)=true by simpa using h]; rfl
theorem rssS_ok:FspOk Tryz.prog 69 mscS:=tower_Y fsR4_ok spM0_ok ⟨Tryz.func69,fun _ _=>by kernel_rfl⟩ (by intro α args k; unfold mscS; split<;>rfl) fun args out hSm hEq=>by
 unfold mscS at hEq
 split at hEq
 ·rename_i l r
  exact ⟨20,12,((rss_text 20 0 AOut l r some).trans (rss_plain l r some)).trans hEq⟩
 ·cases hEq
/-! Points. -/
def ptW (p:Int):Bool:=decide (-16≤p)&&decide (p≤16)
theorem rnw_plain {e l t p:Int} (ht:hmB t=true) (hp:ptW p=true):rxA e l t p=.ret (nxA (nxE e) (nxL l t p) (nxT t p)):=by
 unfold hmB at ht
 unfold ptW at hp
 rw [Bool.or_eq_true,beq_iff_eq,beq_iff_eq] at ht
 simp only [Bool.and_eq_true,decide_eq_true_eq] at hp
 unfold rxA nxE nxL nxT
 rcases ht with rfl | rfl
 ·show (bif decide (p > 0) then _ else _)=AOut.ret (nxA _ (clL (IntKind.i64.wrap (l + IntKind.i64.wrap (1 * p)))) _)
  have e1:IntKind.i64.wrap (1 * p)=p:=by rw [IntKind.wrap_i64]; omega
  rw [e1]
  cases decide (p > 0)<;>rfl
 ·show (bif decide (p > 0) then _ else _)=AOut.ret (nxA _ (clL (IntKind.i64.wrap (l + IntKind.i64.wrap (-1 * p)))) _)
  rw [show (-1:Int) * p=0 - p by omega]
  cases decide (p > 0)<;>rfl
noncomputable def rnwS:Fsp:=fun _ args k=>match args with
 | [.agg [.int .i64 e,.int .i64 l,.int .i64 t],.int .i64 p]=>bif hmB t&&ptW p then k (.ret (nxA (nxE e) (nxL l t p) (nxT t p))) else none
 | _=>none
theorem rnwS_ok:FspOk Tryz.prog 71 rnwS:=tower_Y fsT1_ok spK_ok ⟨Tryz.func71,fun _ _=>by kernel_rfl⟩ (by intro α args k; unfold rnwS; split<;>simp only [cond_bind,Option.bind_some,Option.bind_none]) fun args out hSm hEq=>by
 unfold rnwS at hEq
 split at hEq
 ·rename_i e l t p
  cases hc:hmB t&&ptW p
  ·rw [hc] at hEq; cases hEq
  ·rw [hc] at hEq
   rw [Bool.and_eq_true] at hc
   refine ⟨12,30,((rnx_text 12 0 AOut e l t p some).trans ?_).trans hEq⟩
   have h:=rnw_plain (e:=e) (l:=l) hc.1 hc.2
   unfold rxA at h
   rw [cond_true,← h]
   cases t==1<;>cases decide (p > 0)<;>rfl
 ·cases hEq
noncomputable def fsT7:FuncId→Option Fsp:=fun g=>
 if g=71 then some rnwS else
 if g=34 then some rmStS else
 if g=68 then some exS else
 if g=69 then some mscS else
 fsT4 g
theorem fsT7_ok:FsOk fsT7:=
 fs_cons rnwS_ok <|
 fs_cons rmStS_ok <|
 fs_cons rexS_ok <|
 fs_cons rssS_ok <|
 fsT4_ok
abbrev RfS:=MpI × Int × Int × Int × Unit
noncomputable def rfS {α:Type} (r:RvI) (e l t q:Int) (x:RfS):Option (LRes RfS α):=
 bif hmB t&&ptW q then bif hpD 13 r (nxG e l t q) x.1 then
  some (.cont (wr r (nxG e l t q) x.1,IntKind.i64.wrap (x.2.1 + 1),(if (hv r (nxG e l t q)).1 < x.2.2.1 then (hv r (nxG e l t q)).1 else x.2.2.1),(if x.2.2.2.1 < (hv r (nxG e l t q)).2.1 then (hv r (nxG e l t q)).2.1 else x.2.2.2.1),()))
 else none else none
noncomputable def rfF {α:Type} (r:RvI) (e l t:Int) (S:List ScI) (x:RfS):Option (LRes RfS α):=
 bif decide (x.2.1 < (S.length:Int)) then
  if 0≤x.2.1∧x.2.1 < (S.length:Int) then if 0≤x.2.1∧x.2.1 < (S.length:Int) then
   bif (S.getD x.2.1.toNat (0,0,())).1 != t then rfS r e l t (IntKind.i64.wrap (0 - (S.getD x.2.1.toNat (0,0,())).2.1)) x else rfS r e l t (S.getD x.2.1.toNat (0,0,())).2.1 x
  else none else none
 else some (.brk 0 (x.1,x.2.1,x.2.2.1,x.2.2.2.1,()))
noncomputable def rfT {α:Type} (N:Nat) (r:RvI) (e l t:Int) (S:List ScI) (k:AOut→Option α):Option α:=
 afterL (iterL N (rfF r e l t S) ([],0,65536,0,())) fun id y=>if id=0 then k (.ret (.tup [hpA y.2.2.1 y.2.2.2.1,.int .i64 0])) else none
set_option maxRecDepth 100000 in
theorem raf_text (N n0:Nat) (α:Type) (d:Int) (A B:List (List Int)) (e l t:Int) (L:List SnI) (k:AOut→Option α):evFn real tab ((twR fsT7 spR).env real tab N (n0 + 30)) N Tryz.f15 α [.agg [.int .i64 d,.ro LsSh A,.ro LsSh B],.agg [.int .i64 e,.int .i64 l,.int .i64 t],.ro SnSh L] k =
 bif rvB (d,A,B) then bif stB (e,l,t,()) then bif !snsB L then k (.ret (.tup [hpA 0 0,.int .i64 2])) else bif e==0 then k (.ret (.tup [hpA 0 0,.int .i64 9])) else rfT N (d,
 A,B) e l t (xsc L) k else k (.ret (.tup [hpA 0 0,.int .i64 2])) else k (.ret (.tup [hpA 0 0,.int .i64 2])):=by kernel_rfl
theorem gD_mem {X:Type} {l:List X} (d:X) {i:Nat} (h:i < l.length):l.getD i d∈l:=by
 rw [List.getD_eq_getElem?_getD,List.getElem?_eq_getElem h]
 exact List.getElem_mem h
/-! The least, and the greatest, are those of the first ones that are best. -/
def rfLo (H:List HpI):Nat→Int
 | 0=>65536
 | i + 1=>if (H.getD i (0,0,())).1 < rfLo H i then (H.getD i (0,0,())).1 else rfLo H i
def rfHi (H:List HpI):Nat→Int
 | 0=>0
 | i + 1=>if rfHi H i < (H.getD i (0,0,())).2.1 then (H.getD i (0,0,())).2.1 else rfHi H i
theorem fsN_one (q:HpI→HpI→Bool) (H:List HpI):fsN q H 1=0:=by
 show (bif q (H.getD 0 (0,0,())) (H.getD 0 (0,0,())) then 0 else 0)=0
 cases q (H.getD 0 (0,0,())) (H.getD 0 (0,0,()))<;>rfl
theorem rfLo_eq {H:List HpI} (ok:∀ h∈H,OkH h):∀ i,i < H.length→rfLo H (i + 1)=(H.getD (fsN qLo H (i + 1)) (0,0,())).1
 | 0,hi=>by
   rw [fsN_one,rfLo,rfLo]
   have:=ok _ (gD_mem (0,0,()) hi)
   have h1:=this.le
   have h2:=this.hi
   split<;>omega
 | i + 1,hi=>by
   have ih:=rfLo_eq ok i (by omega)
   rw [rfLo,fsN,ih]
   unfold qLo
   split
   ·rename_i h; rw [decide_eq_true h]; rfl
   ·rename_i h; rw [decide_eq_false h]; rfl
theorem rfHi_eq {H:List HpI} (ok:∀ h∈H,OkH h):∀ i,i < H.length→rfHi H (i + 1)=(H.getD (fsN qHi H (i + 1)) (0,0,())).2.1
 | 0,hi=>by
   rw [fsN_one,rfHi,rfHi]
   have:=ok _ (gD_mem (0,0,()) hi)
   have h1:=this.le
   have h2:=this.lo
   split<;>omega
 | i + 1,hi=>by
   have ih:=rfHi_eq ok i (by omega)
   rw [rfHi,fsN,ih]
   unfold qHi
   split
   ·rename_i h; rw [decide_eq_true (show (H.getD (i + 1) (0,0,())).2.1 > (H.getD (fsN (fun a b=>decide (a.2.1 > b.2.1)) H (i + 1)) (0,0,())).2.1 from h)]; rfl
   ·rename_i h; rw [decide_eq_false (show ¬ (H.getD (i + 1) (0,0,())).2.1 > (H.getD (fsN (fun a b=>decide (a.2.1 > b.2.1)) H (i + 1)) (0,0,())).2.1 from h)]; rfl
theorem xsc_in {L:List SnI} {p:ScI} (h:p∈xsc L):0≤p.2.1∧p.2.1≤16:=by
 unfold xsc scR at h
 cases hb:bdsE L (exL L)==0
 ·rw [hb] at h; exact absurd h List.not_mem_nil
 ·rw [hb] at h
  have:=scL_in h
  exact ⟨this.2.2.1,this.2.2.2⟩
theorem af_ok {d:Int} {A B:List (List Int)} {e l t:Int} (hr:rvB (d,A,B)=true) (hs:stB (e,l,t,())=true) (h0:0 < e) (p:ScI):OkH (afG (d,A,B) e l t p):=by
 have hn:=nx_st (p:=pfV t p) hs h0
 have hb:=(stB_in hn).1.1
 unfold afG
 refine hv_ok hr (nxE e).toNat _ _ _ ?_ hn
 have:0≤nxE e:=hb
 omega
noncomputable def rfW (r:RvI) (e l t:Int) (S:List ScI):Nat→MpI
 | 0=>[]
 | i + 1=>wr r (nxG e l t (pfV t (S.getD i (0,0,())))) (rfW r e l t S i)
theorem rfW_gd {r:RvI} (e l t:Int) (S:List ScI):∀ i,gdB r (rfW r e l t S i)=true
 | 0=>rfl
 | i + 1=>gd_wr _ _ (rfW_gd e l t S i)
theorem rf_run {α:Type} {d:Int} {A B:List (List Int)} {e l t:Int} (hr:rvB (d,A,B)=true) (hs:stB (e,l,t,())=true) (h0:0 < e) {L:List SnI} (hp:0 < (xsc L).length) (k:AOut→Option α) :
  rfT 40 (d,A,B) e l t (xsc L) k=k (.ret (.tup [hpA (afL (d,A,B) e l t L) (afU (d,A,B) e l t L),.int .i64 0])):=by
 have hl:=xsc_len L
 have hin:∀ i,i < (xsc L).length→ptW (pfV t ((xsc L).getD i (0,0,())))=true:=fun i hi=>by
  have:=xsc_in (gD_mem (0,0,()) hi)
  unfold pfV ptW
  cases (((xsc L).getD i (0,0,())).1 != t)
  ·simp only [cond_false]; rw [decide_eq_true (by omega),decide_eq_true (by omega)]; rfl
  ·simp only [cond_true]; rw [i64_in _ (by omega),decide_eq_true (by omega),decide_eq_true (by omega)]; rfl
 have hx:∀ (i:Nat),((xsc L).map (afG (d,A,B) e l t)).getD i (0,0,())=if i < (xsc L).length then afG (d,A,B) e l t ((xsc L).getD i (0,0,())) else (0,0,()):=fun i=>by
  rw [List.getD_eq_getElem?_getD,List.getElem?_map,List.getD_eq_getElem?_getD]
  split
  ·rename_i hi; rw [List.getElem?_eq_getElem hi]; rfl
  ·rename_i hi; rw [List.getElem?_eq_none (by omega)]; rfl
 have hok:∀ h∈(xsc L).map (afG (d,A,B) e l t),OkH h:=fun h hh=>by
  obtain ⟨p,_,rfl⟩:=List.mem_map.1 hh
  exact af_ok hr hs h0 p
 unfold afL afU afH
 generalize hS:xsc L=S at *
 have hmx:S.length≤maxLen:=by have:maxLen=9223372036854775807:=rfl; omega
 unfold rfT
 refine (count_loop (f:=rfF (d,A,B) e l t S) (fun i:Nat=>(rfW (d,A,B) e l t S i,(i:Int),rfLo (S.map (afG (d,A,B) e l t)) i,rfHi (S.map (afG (d,A,B) e l t)) i,())) S.length (fun i hi=>?_) (y:=(rfW (d,A,B) e l t S S.length,(S.length:Int),rfLo (S.map (afG (d,A,B) e l t)) S.length,rfHi (S.map (afG (d,A,B) e l t)) S.length,())) (b:=0) ?_ (by omega)).trans ?_
 ·have step:∀ q,q=pfV t (S.getD i (0,0,()))→rfS (α:=α) (d,A,B) e l t q (rfW (d,A,B) e l t S i,(i:Int),rfLo (S.map (afG (d,A,B) e l t)) i,rfHi (S.map (afG (d,A,B) e l t)) i,())=some (.cont (rfW (d,A,B) e l t S (i + 1),((i + 1:Nat):Int),rfLo (S.map (afG (d,A,B) e l t)) (i + 1),rfHi (S.map (afG (d,A,B) e l t)) (i + 1),())):=fun q hq=>by
   subst hq
   unfold rfS
   rw [stB_hm hs,hin i hi,Bool.and_self,cond_true,hpD_nil hr (nx_st hs h0) (rfW_gd e l t S i),cond_true,wrap_next hi hmx,rfLo,rfHi,hx i,if_pos hi]
   rfl
  unfold rfF
  simp only [lt_len hi,cond_true,in_len hi,if_pos,and_self,decide_true,Int.toNat_natCast]
  cases hc:(S.getD i (0,0,())).1 != t
  ·exact step _ (by unfold pfV; rw [hc]; rfl)
  ·exact step _ (by unfold pfV; rw [hc]; rfl)
 ·unfold rfF
  simp only [not_lt_len,cond_false]
 ·rw [if_pos rfl]
  obtain ⟨n,hn⟩:∃ n,S.length=n + 1:=⟨S.length - 1,by omega⟩
  have e1:=rfLo_eq hok n (by rw [List.length_map]; omega)
  have e2:=rfHi_eq hok n (by rw [List.length_map]; omega)
  rw [← hn] at e1 e2
  show k (.ret (.tup [hpA (rfLo (S.map (afG (d,A,B) e l t)) S.length) (rfHi (S.map (afG (d,A,B) e l t)) S.length),.int .i64 0]))=_
  rw [e1,e2]
noncomputable def rafS:Fsp:=fun _ args k=>match args with
 | [.agg [.int .i64 d,.ro (.sl (.int .i64)) A,.ro (.sl (.int .i64)) B],.agg [.int .i64 e,.int .i64 l,.int .i64 t],.ro (.recd (.cons (.int .i64) (.cons (.int .i64) (.cons (.recd (.cons (.int .i64) (.cons (.int .i64) .nil))) .nil)))) L]=>k (.ret (.tup [hpA (aqL d A B e l t L) (aqU d A B e l t L),.int .i64 (afE d A B e l t L)]))
 | _=>none
theorem rafS_ok:FspOk Tryz.prog 15 rafS:=tower_R fsT7_ok spR_ok ⟨Tryz.func15,fun _ _=>by kernel_rfl⟩ (by intro α args k; unfold rafS; split<;>rfl) fun args out hSm hEq=>by
 unfold rafS at hEq
 split at hEq
 ·rename_i d A B e l t L
  refine ⟨40,30,(raf_text 40 0 AOut d A B e l t L some).trans (Eq.trans ?_ hEq)⟩
  unfold aqL aqU afE afB rsB
  cases hr:rvB (d,A,B)
  ·rfl
  cases hst:stB (e,l,t,())
  ·rfl
  cases hs:snsB L
  ·rfl
  cases he:e==0
  case true=>rfl
  have h0:0 < e:=by
   have:=(stB_in hst).1.1
   have:e≠0:=beq_eq_false_iff_ne.1 he
   simp only at *
   omega
  exact rf_run hr hst h0 (xsc_pos hs) some
 ·cases hEq
noncomputable def fsAf:FuncId→Option Fsp:=fun g=>
 if g=9 then some kafS else
 if g=15 then some rafS else
 fsK9 g
theorem fsAf_ok:FsOk fsAf:=
 fs_cons kafS_ok <|
 fs_cons rafS_ok <|
 fsK9_ok
set_option maxRecDepth 100000 in
theorem kfl_text (N n0:Nat) (α:Type) (d:Int) (A B:List (List Int)) (e l t:Int) (L:List SnI) (k:AOut→Option α):evFn real tab ((twY fsAf spK).env real tab N (n0 + 30)) N Tryz.f4 α [.agg [.int .i64 d,.ro LsSh A,.ro LsSh B],.agg [.int .i64 e,.int .i64 l,.int .i64 t],.ro SnSh L] k =
 bif grB A B then k (AOut.ret (AVal.bool true)) else bif decide (e > 3) then bif decide (e≤12) then k (AOut.ret (AVal.bool true)) else bif decide ((↑L.length:Int) > 20) then k
 (AOut.ret (AVal.bool true)) else bif aqL d A B e l t L==aqL d A B e l t L&&(aqU d A B e l t L==aqU d A B e l t L&&true) then bif afE d A B e l t L==afE d A B e l t L then
 k (AOut.ret (AVal.bool true)) else k (AOut.ret (AVal.bool false)) else k (AOut.ret (AVal.bool false)) else bif decide ((↑L.length:Int) > 20) then k (AOut.ret (AVal.bool true))
 else bif aqL d A B e l t L==aqL d A B e l t L&&(aqU d A B e l t L==aqU d A B e l t L&&true) then bif afE d A B e l t L==afE d A B e l t L then k (AOut.ret (AVal.bool
 true)) else k (AOut.ret (AVal.bool false)) else k (AOut.ret (AVal.bool false)):=by kernel_rfl
theorem kfl_true (d:Int) (A B:List (List Int)) (e l t:Int) (L:List SnI):evFn real tab ((twY fsAf spK).env real tab 20 30) 20 Tryz.f4 AOut [.agg [.int .i64 d,.ro LsSh A,.ro LsSh B],.agg [.int .i64 e,.int .i64 l,.int .i64 t],.ro SnSh L] some=some (b1 true):=by
 refine (kfl_text 20 0 AOut d A B e l t L some).trans ?_
 simp only [BEq.rfl,Bool.and_self,cond_true]
 cases grB A B
 ·cases decide (e > 3)
  ·cases decide ((L.length:Int) > 20)<;>rfl
  ·cases decide (e≤12)
   ·cases decide ((L.length:Int) > 20)<;>rfl
   ·rfl
 ·rfl
def kflF:List AVal→Option AOut
 | [.agg [.int .i64 _,.ro (.sl (.int .i64)) _,.ro (.sl (.int .i64)) _],.agg [.int .i64 _,.int .i64 _,.int .i64 _],.ro (.recd (.cons (.int .i64) (.cons (.int .i64) (.cons (.recd (.cons (.int .i64) (.cons (.int .i64) .nil))) .nil)))) _]=>some (b1 true)
 | _=>none
theorem kfl_ok:FspOk Tryz.prog 4 (toFsp kflF):=tower_Y fsAf_ok spK_ok ⟨Tryz.func4,fun _ _=>by kernel_rfl⟩ (toFsp_nat _) fun args out hSm hq=>by
 replace hq:=toFsp_some hq
 unfold kflF at hq
 split at hq
 ·rename_i d A B e l t L
  cases hq
  exact ⟨20,30,kfl_true d A B e l t L⟩
 ·cases hq
end Go.Proofs.YtbkpklfjoifdbaaGreat
namespace Go.Proofs.YtbkpklfjoifdbaaGreat
def rvSh:Sh:=.recd (.cons (.int .i64) (.cons (.recd (.cons (.sl LsSh) (.cons (.sl LsSh) .nil))) .nil))
end Go.Proofs.YtbkpklfjoifdbaaGreat
