/- Parts of the proof, in build order. -/
import Derived.Test.YtneggblnfobfcaaM7
import Derived.Test.YtneggblnfobfcaaM6
namespace Go.Proofs.Ytneggblnfobfcaa
open Go.RowKit
def bwσ (b m:Nat):Nat→Nat
 | 0=>b
 | _=>m
theorem bw_box {σ:Nat→Nat} {I:Nat→Prop} {r:RvI} {dn od:Bool} {i m:Nat} (hi:I i) (e:σ i=m) (j:Nat) (c' d':AVal) (hc:([.int .i64 r.1,.ro LsSh r.2.1,.ro LsSh r.2.2,.bool dn,.bool od,.own i]:List AVal)[j]?=some c') (hd:([.int .i64 r.1,.ro LsSh r.2.1,.ro LsSh r.2.2,.bool dn,.bool od,.own m]:List AVal)[j]?=some d'):Ren σ I c' d':=by
 subst e
 match j,hc,hd with
 | 0,hc,hd=>cases hc; cases hd; exact .flat _ rfl
 | 1,hc,hd=>cases hc; cases hd; exact .flat _ rfl
 | 2,hc,hd=>cases hc; cases hd; exact .flat _ rfl
 | 3,hc,hd=>cases hc; cases hd; exact .flat _ rfl
 | 4,hc,hd=>cases hc; cases hd; exact .flat _ rfl
 | 5,hc,hd=>cases hc; cases hd; exact .own i hi
 | j + 6,hc,_=>simp at hc
theorem bw_sub {h:List ABlk} {r:RvI} {dn od:Bool} {M:MqI} {b m:Nat} (hne:m≠b) (h0:h[b]?=some (bwB r dn od m)) (h1:h[m]?=some (mqR M)):Sub (bwσ b m) (· < 2) (bwH r dn od M) h where
 inj:=fun i j hi hj e=>by
  match i,j,hi,hj with
  | 0,0,_,_=>rfl
  | 0,1,_,_=>exact absurd e.symm hne
  | 1,0,_,_=>exact absurd e hne
  | 1,1,_,_=>rfl
  | i + 2,_,hi,_=>exact absurd hi (by simp)
  | _,j + 2,_,hj=>exact absurd hj (by simp)
 blk:=fun i hi=>by
  match i,hi with
  | 0,_=>exact .inl ⟨true,_,_,rfl,h0,rfl,bw_box (i:=1) (show 1 < 2 by omega) rfl⟩
  | 1,_=>exact .inr ⟨true,mqT,MqSh,M,rfl,h1⟩
  | i + 2,hi=>exact absurd hi (by simp)
structure BwEnd (r:RvI) (dn od:Bool) (M:MqI) (hs:List ABlk) (q:Nat):Prop where
 h0:hs[0]?=some (bwB r dn od q)
 hq:hs[q]?=some (mqR M)
 n0:q≠0
def bwσ' (h:List ABlk) (b m q i:Nat):Nat:=if i=q then h.length else bwσ b m i
def bwJ (q i:Nat):Prop:=i=0∨i=q
theorem bw_sub' {h hs:List ABlk} {r:RvI} {dn od:Bool} {M:MqI} {b m q:Nat} (hne:m≠b) (E:BwEnd r dn od M hs q) (hb:b < h.length) (hm:m < h.length):Sub (bwσ' h b m q) (bwJ q) hs (bwM h b m r dn od M):=by
 obtain ⟨e0,eq,q0⟩:=E
 have s0:bwσ' h b m q 0=b:=if_neg (Ne.symm q0)
 have sq:bwσ' h b m q q=h.length:=if_pos rfl
 have f0:(bwM h b m r dn od M)[b]?=some (bwB r dn od h.length):=by
  unfold bwM
  rw [List.getElem?_append_left (by simp; exact hb),List.getElem?_set,if_pos rfl,if_pos (by simp; exact hb)]
 have fq:(bwM h b m r dn od M)[h.length]?=some (mqR M):=by
  unfold bwM
  rw [List.getElem?_append_right (by simp)]
  simp
 constructor
 ·intro i j hi hj e
  rcases hi with rfl | rfl<;>rcases hj with rfl | rfl<;>simp only [s0,sq] at e<;>first | rfl | (exfalso; omega)
 ·intro i hi
  rcases hi with rfl | rfl
  ·have g0:(bwM h b m r dn od M)[bwσ' h b m q 0]?=some (bwB r dn od h.length):=by rw [s0]; exact f0
   exact .inl ⟨true,_,_,e0,g0,rfl,bw_box (i:=q) (.inr rfl) sq⟩
  ·exact .inr ⟨true,mqT,MqSh,M,eq,by rw [sq]; exact fq⟩
theorem bwAt_some {h:List ABlk} {b:Nat} {r:RvI} {dn od:Bool} {M:MqI} {m:Nat} (e:bwAt h b=some (r,dn,od,M,m)):m≠b∧h[b]?=some (bwB r dn od m)∧h[m]?=some (mqR M):=by
 unfold bwAt at e
 split at e
 ·rename_i d A B dn' od' m' e1
  split at e
  ·rename_i t M' e2
   split at e
   ·rename_i hh
    obtain ⟨rfl,hne⟩:=hh
    cases e
    exact ⟨hne,getD_box (b:=bwB (d,A,B) dn od m) (fun h=>by cases h) e1,getD_box (b:=mqR M) (fun h=>by cases h) e2⟩
   ·cases e
  ·cases e
 ·cases e
theorem bwX_at {D:RvI→Bool→GsI→MqI→Bool} {V:RvI→Bool→GsI→MqI→Int} {O:RvI→Bool→GsI→MqI→Bool} {W:RvI→Bool→GsI→MqI→MqI} {sp:FuncId→Option (Cv→Cv)} (hsp:SpOk sp)
  (step:∀ r dn s M,D r dn s M=true→∃ N n hs q,evBody real tab ((twY fsK5 sp).env real tab N n) N Try.f8 [.op 0 0,.agg [.int .i64 s.1,.int .i64 s.2.1,.int .i64 s.2.2.1]] (bwH r dn false M) tripE=some (.normal,.int .i64 (V r dn s M),hs)∧BwEnd r dn (O r dn s M) (W r dn s M) hs q)
  (cv:Cv) (caps:List AVal):CvAt Try.prog (bwX D V O W cv) (.fn 8 caps) where
 nat:=fun α args h k=>by
  unfold bwX
  split
  ·split
   ·split
    ·rw [cond_bind]; rfl
    ·rfl
   ·rfl
  ·rfl
 ok:=fun args h x u h1 hk K g w fv cargs s hv hlen hargs=>by
  unfold bwX at hk
  split at hk
  case h_2=>cases hk
  rename_i f b e l t hcaps
  split at hk
  case isFalse=>cases hk
  split at hk
  case h_2=>cases hk
  rename_i r dn od M m hat
  cases hD:!od&&D r dn (e,l,t,()) M
  ·rw [hD] at hk; cases hk
  rw [hD] at hk
  cases hk
  rw [Bool.and_eq_true,Bool.not_eq_true'] at hD
  obtain ⟨rfl,hD⟩:=hD
  cases hcaps
  obtain ⟨hne,q0,q1⟩:=bwAt_some hat
  obtain ⟨N,n,hs,q,hbody,E⟩:=step r dn (e,l,t,()) M hD
  have S0:=bw_sub hne q0 q1
  have hm:m < h.length:=(List.getElem?_eq_some_iff.1 q1).1
  have hb:b < h.length:=(List.getElem?_eq_some_iff.1 q0).1
  have S1:=bw_sub' (h:=h) (m:=m) hne E hb hm
  have keep:∀ j,j < h.length→j≠m→j≠b→(bwM h b m r dn (O r dn (e,l,t,()) M) (W r dn (e,l,t,()) M))[j]?=h[j]?:=fun j hj h1 h2=>by
   unfold bwM
   rw [List.getElem?_append_left (by simp; exact hj),List.getElem?_set_ne (Ne.symm h2),List.getElem?_set_ne (Ne.symm h1)]
  cases hv with
  | fn _ _ arr ha1 ha2=>
    refine .inl ⟨_,arr,rfl,fun w=>by kernel_rfl,?_⟩
    have ha0:arr=#[]:=Array.eq_empty_of_size_eq_zero (by rw [← ha1]; rfl)
    subst ha0
    have st:=sub_st s (I:=(· < 2)) (hs:=bwH r dn false M) (fun i hi=>hi) S0
    refine (body_calls mixedT tabOk (tower_ok mixedT tabOk (twY_ok fsK5_ok hsp) N n) N Try.func8 hbody st (by rw [Array.append_empty]; exact hlen) fun j c' z hc hz=>?_).mono fun e' w' hp=>sub_post (q:=q) s S0 S1 ⟨.inr rfl,if_pos rfl⟩ (fun i hi=>?_) (by unfold bwM; simp) (fun j hj hn=>keep j hj (fun e=>hn 1 (show 1 < 2 by omega) e.symm) fun e=>hn 0 (show 0 < 2 by omega) e.symm) (fun i hi hk=>?_) (fun i hi cs hb=>?_) (fun i hi t e xs hb=>?_) (.flat _ rfl) hp
    ·rw [Array.append_empty] at hz
     have down:∀ {c' d':AVal} {v:Value},Ren (bwσ b m) (· < 2) c' d'→Rep h g w d' v→Rep (bwH r dn false M) ⟨fun i=>g.ρ (bwσ b m i),g.M⟩ w c' v:=fun rr hh=>ren_down S0 (g:=g) (gs:=⟨fun i=>g.ρ (bwσ b m i),g.M⟩) (fun _ _=>rfl) (fun _ h=>h) rr hh
     match j,hc with
     | 0,hc=>
       cases hc
       exact down (.op 0 0 (show 0 < 2 by omega)) (hargs 0 _ z rfl hz)
     | 1,hc=>
       cases hc
       refine down (.agg _ _ rfl fun j c' d' hc hd=>?_) (hargs 1 _ z rfl hz)
       rw [hc] at hd; cases hd
       match j,hc with
       | 0,hc=>cases hc; exact .flat _ rfl
       | 1,hc=>cases hc; exact .flat _ rfl
       | 2,hc=>cases hc; exact .flat _ rfl
       | j + 3,hc=>simp at hc
     | j + 2,hc=>simp at hc
    ·by_cases e:i=q
     ·exact .inl e
     ·refine .inr ⟨?_,if_neg e⟩
      rcases hi with rfl | rfl
      ·show 0 < 2; omega
      ·exact absurd rfl e
    ·obtain ⟨_,_,z0⟩:=E
     match i,hi with
     | 0,_=>exact absurd ⟨.inl rfl,Ne.symm z0⟩ hk
     | 1,_=>
       show (bwM h b m r dn _ _)[m]?=some ABlk.dead
       unfold bwM
       rw [List.getElem?_append_left (by simp; exact hm),List.getElem?_set_ne (Ne.symm hne),List.getElem?_set,if_pos rfl,if_pos hm]
     | i + 2,hi=>exact absurd hi (by simp)
    ·match i,hi with
     | 0,_=>
       have:h[b]?=some (ABlk.box false cs):=hb
       rw [q0] at this; cases this
     | 1,_=>
       have:h[m]?=some (ABlk.box false cs):=hb
       rw [q1] at this; cases this
     | i + 2,hi=>exact absurd hi (by simp)
    ·match i,hi with
     | 0,_=>
       have:h[b]?=some (ABlk.row false t e xs):=hb
       rw [q0] at this; cases this
     | 1,_=>
       have:h[m]?=some (ABlk.row false t e xs):=hb
       rw [q1] at this; cases this
     | i + 2,hi=>exact absurd hi (by simp)
abbrev BwI:=Int × Int × Int × Int × List (List Int) × List (List Int) × Bool × Bool × MqI × Unit
abbrev BwI.rv (x:BwI):RvI:=(x.2.2.2.1,x.2.2.2.2.1,x.2.2.2.2.2.1)
abbrev BwI.dn (x:BwI):Bool:=x.2.2.2.2.2.2.1
abbrev BwI.od (x:BwI):Bool:=x.2.2.2.2.2.2.2.1
abbrev BwI.M (x:BwI):MqI:=x.2.2.2.2.2.2.2.2.1
abbrev BwI.to (x:BwI) (s n:Int) (od:Bool) (M:MqI):BwI:=(s,n,IntKind.i64.wrap (x.2.2.1 + 1),x.2.2.2.1,x.2.2.2.2.1,x.2.2.2.2.2.1,x.dn,od,M,())
abbrev BwO:=Int × Bool × Int × Int × List (List Int) × List (List Int) × Bool × Bool × MqI × Unit
abbrev stA3 (e l t:Int):ABlk:=.box true [.int .i64 e,.int .i64 l,.int .i64 t]
abbrev nnS (e l t p:Int):GsI:=(nnE e l t p,nnL e l t p,nnT e l t p,())
section
variable {α:Type} (K:AExit→AVal→List ABlk→Option α) (D:RvI→Bool→GsI→MqI→Bool) (V:RvI→Bool→GsI→MqI→Int) (O:RvI→Bool→GsI→MqI→Bool) (W:RvI→Bool→GsI→MqI→MqI) (e l t:Int)
def bwOdd (r:RvI) (dn od:Bool) (M:MqI) (p:Int):Option α:=K .normal (.int .i64 0) [bwB r dn od 4,.dead,stA3 e l t,.dead,mqR M,stA3 (nnE e l t p) (nnL e l t p) (nnT e l t p)]
def bwP (c p:Int) (x:BwI):Option (LRes BwI (LRes BwO α)):=
 bif decide (e > 0) then
  bif x.od then finL (finL (bwOdd K e l t x.rv x.dn true x.M p))
  else bif nnR e l t p != 0 then finL (finL (bwOdd K e l t x.rv x.dn (nnR e l t p != 0) x.M p))
  else bif !(nnR e l t p != 0)&&D x.rv x.dn (nnS e l t p) x.M then some (.cont (x.to (IntKind.i64.wrap (x.1 + IntKind.i64.wrap (V x.rv x.dn (nnS e l t p) x.M * c))) (IntKind.i64.wrap (x.2.1 + c)) (O x.rv x.dn (nnS e l t p) x.M) (W x.rv x.dn (nnS e l t p) x.M))) else none
 else bif decide (p > 0)==(t==0) then some (.cont (x.to (IntKind.i64.wrap (x.1 + IntKind.i64.wrap (65536 * c))) (IntKind.i64.wrap (x.2.1 + c)) x.od x.M))
 else some (.cont (x.to (IntKind.i64.wrap (x.1 + IntKind.i64.wrap (0 * c))) (IntKind.i64.wrap (x.2.1 + c)) x.od x.M))
def bwF (c:List Int) (x:BwI):Option (LRes BwI (LRes BwO α)):=
 bif decide (x.2.2.1 < (c.length:Int)) then
  if 0≤x.2.2.1∧x.2.2.1 < (c.length:Int) then
   bif e==0 then
    bif IntKind.i64.wrap (x.2.2.1 - 8)==0 then some (.cont (x.to x.1 x.2.1 x.od x.M))
    else bwP K D V O W e l t (c.getD x.2.2.1.toNat 0) (IntKind.i64.wrap (x.2.2.1 - 8)) x
   else bwP K D V O W e l t (c.getD x.2.2.1.toNat 0) (IntKind.i64.wrap (x.2.2.1 - 8)) x
  else none
 else some (.brk 2 (x.1,x.2.1,x.2.2.1,x.2.2.2.1,x.2.2.2.2.1,x.2.2.2.2.2.1,x.dn,x.od,x.M,()))
def bwU (q:Int→Int→Bool) (v:Int) (x:BwO) (y:BwI):Option (LRes BwO α):=
 bif !x.2.1 then some (.cont (v,true,IntKind.i64.wrap (x.2.2.1 + 1),y.2.2.2.1,y.2.2.2.2.1,y.2.2.2.2.2.1,y.dn,y.od,y.M,()))
 else bif q v x.1 then some (.cont (v,true,IntKind.i64.wrap (x.2.2.1 + 1),y.2.2.2.1,y.2.2.2.2.1,y.2.2.2.2.2.1,y.dn,y.od,y.M,()))
 else some (.cont (x.1,x.2.1,IntKind.i64.wrap (x.2.2.1 + 1),y.2.2.2.1,y.2.2.2.2.1,y.2.2.2.2.2.1,y.dn,y.od,y.M,()))
def bwG (N:Nat) (q:Int→Int→Bool) (L:List (List Int)) (x:BwO):Option (LRes BwO α):=
 bif decide (x.2.2.1 < (L.length:Int)) then
  if 0≤x.2.2.1∧x.2.2.1 < (L.length:Int) then
   afterL (iterL N (bwF K D V O W e l t (L.getD x.2.2.1.toNat [])) (0,0,0,x.2.2.2.1,x.2.2.2.2.1,x.2.2.2.2.2.1,x.2.2.2.2.2.2.1,x.2.2.2.2.2.2.2.1,x.2.2.2.2.2.2.2.2.1,())) fun id y=>if id=2 then
    bif y.2.1==0 then finL (K .normal (.int .i64 0) [bwB (BwI.rv y) (BwI.dn y) true 4,.dead,stA3 e l t,.dead,mqR (BwI.M y)])
    else if y.2.1=0 then none else
     bif !BwI.dn y then
      if y.2.1=0 then none else
       bif decide (y.1.tmod y.2.1 > 0) then bwU q (IntKind.i64.wrap (IntKind.i64.wrap (y.1.tdiv y.2.1) + 1)) x y else bwU q (IntKind.i64.wrap (y.1.tdiv y.2.1)) x y
     else bwU q (IntKind.i64.wrap (y.1.tdiv y.2.1)) x y
   else none
  else none
 else some (.brk 0 (x.1,x.2.1,x.2.2.1,x.2.2.2.1,x.2.2.2.2.1,x.2.2.2.2.2.1,x.2.2.2.2.2.2.1,x.2.2.2.2.2.2.2.1,x.2.2.2.2.2.2.2.2.1,()))
def bwZ (N:Nat) (q:Int→Int→Bool) (L:List (List Int)) (d:Int) (A B:List (List Int)) (dn:Bool) (M:MqI):Option α:=
 bif (mpFind GsSh FxSh (e,l,t,()) M).isSome then K .normal (.int .i64 ((mpFind GsSh FxSh (e,l,t,()) M).getD (0:Int))) [bwB (d,A,B) dn false 1,mqR M,stA3 e l t]
 else afterL (iterL N (bwG K D V O W e l t N q L) (0,false,0,d,A,B,dn,false,M,())) fun id y=>if id=0 then
  K .normal (.int .i64 y.1) [bwB (y.2.2.2.1,y.2.2.2.2.1,y.2.2.2.2.2.1) y.2.2.2.2.2.2.1 y.2.2.2.2.2.2.2.1 3,.dead,stA3 e l t,mqR (mpPut GsSh FxSh (e,l,t,()) y.1 y.2.2.2.2.2.2.2.2.1)] else none
def bwT (N:Nat) (q:Int→Int→Bool) (L:List (List Int)) (d:Int) (A B:List (List Int)) (dn:Bool) (M:MqI):Option α:=
 bif e==0 then
  bif l != 0 then bif decide (l > 0) then K .normal (.int .i64 65536) [bwB (d,A,B) dn false 1,mqR M,stA3 e l t] else K .normal (.int .i64 0) [bwB (d,A,B) dn false 1,mqR M,stA3 e l t]
  else bwZ K D V O W e l t N q L d A B dn M
 else bwZ K D V O W e l t N q L d A B dn M
end
set_option maxRecDepth 100000 in
theorem bw0_text (N n0:Nat) (α:Type) (D:RvI→Bool→GsI→MqI→Bool) (V:RvI→Bool→GsI→MqI→Int) (O:RvI→Bool→GsI→MqI→Bool) (W:RvI→Bool→GsI→MqI→MqI) (d:Int) (A B:List (List Int)) (dn:Bool) (M:MqI) (e l:Int) (k:AExit→AVal→List ABlk→Option α):evBody real tab ((twY fsK5 (spBw D V O W)).env real tab N (n0 + 30)) N Try.f8 (α:=α) [.op 0 0,.agg [.int .i64 e,.int .i64 l,.int .i64 0]] (bwH (d,A,B) dn false M) k=bwT k D V O W e l 0 N (fun v b=>decide (v > b)) A d A B dn M:=by kernel_rfl
set_option maxRecDepth 100000 in
theorem bw1_text (N n0:Nat) (α:Type) (D:RvI→Bool→GsI→MqI→Bool) (V:RvI→Bool→GsI→MqI→Int) (O:RvI→Bool→GsI→MqI→Bool) (W:RvI→Bool→GsI→MqI→MqI) (d:Int) (A B:List (List Int)) (dn:Bool) (M:MqI) (e l:Int) (k:AExit→AVal→List ABlk→Option α):evBody real tab ((twY fsK5 (spBw D V O W)).env real tab N (n0 + 30)) N Try.f8 (α:=α) [.op 0 0,.agg [.int .i64 e,.int .i64 l,.int .i64 1]] (bwH (d,A,B) dn false M) k=bwT k D V O W e l 1 N (fun v b=>decide (v < b)) B d A B dn M:=by kernel_rfl
abbrev BwS:=Int × Int × Bool × MqI
abbrev BwX:=MqI × Option Int
section
variable (V:RvI→Bool→GsI→MqI→Int) (O:RvI→Bool→GsI→MqI→Bool) (W:RvI→Bool→GsI→MqI→MqI) (r:RvI) (dn:Bool) (e l t:Int)
abbrev bwPt (k:Nat):Int:=IntKind.i64.wrap ((k:Int) - 8)
def bwStp (c:List Int) (k:Nat) (x:BwS):BwS ⊕ BwX:=
 bif e==0&&bwPt k==0 then .inl x else
 bif decide (e > 0) then bif x.2.2.1 then .inr (x.2.2.2,some (bwPt k)) else
  .inl (IntKind.i64.wrap (x.1 + IntKind.i64.wrap (V r dn (nnS e l t (bwPt k)) x.2.2.2 * c.getD k 0)),IntKind.i64.wrap (x.2.1 + c.getD k 0),O r dn (nnS e l t (bwPt k)) x.2.2.2,W r dn (nnS e l t (bwPt k)) x.2.2.2)
 else .inl (IntKind.i64.wrap (x.1 + IntKind.i64.wrap ((bif decide (bwPt k > 0)==(t==0) then 65536 else 0) * c.getD k 0)),IntKind.i64.wrap (x.2.1 + c.getD k 0),x.2.2.1,x.2.2.2)
def bwFo (c:List Int):Nat→Nat→BwS→BwS ⊕ BwX
 | 0,_,x=>.inl x
 | n + 1,k,x=>match bwStp V O W r dn e l t c k x with
   | .inr y=>.inr y
   | .inl x'=>bwFo c n (k + 1) x'
abbrev BwT:=Int × Bool × Bool × MqI
def bwVal (s n:Int):Int:=bif !dn then bif decide (s.tmod n > 0) then IntKind.i64.wrap (IntKind.i64.wrap (s.tdiv n) + 1) else IntKind.i64.wrap (s.tdiv n) else IntKind.i64.wrap (s.tdiv n)
def bwSty (q:Int→Int→Bool) (c:List Int) (x:BwT):BwT ⊕ BwX:=
 match bwFo V O W r dn e l t c 17 0 (0,0,x.2.2.1,x.2.2.2) with
 | .inr y=>.inr y
 | .inl y=>bif y.2.1==0 then .inr (y.2.2.2,none) else .inl (bif !x.2.1 || q (bwVal dn y.1 y.2.1) x.1 then (bwVal dn y.1 y.2.1,true,y.2.2.1,y.2.2.2) else (x.1,x.2.1,y.2.2.1,y.2.2.2))
def bwSo (q:Int→Int→Bool):List (List Int)→BwT→BwT ⊕ BwX
 | [],x=>.inl x
 | c :: L,x=>match bwSty V O W r dn e l t q c x with
   | .inr y=>.inr y
   | .inl x'=>bwSo q L x'
def bwQ (t:Int) (v b:Int):Bool:=bif t==0 then decide (v > b) else decide (v < b)
def bwL (r:RvI) (t:Int):List (List Int):=bif t==0 then r.2.1 else r.2.2
def bwRes (M:MqI):Int × Bool × MqI:=
 bif e==0&&l != 0 then (bif decide (l > 0) then (65536,false,M) else (0,false,M)) else
 bif (mpFind GsSh FxSh (e,l,t,()) M).isSome then ((mpFind GsSh FxSh (e,l,t,()) M).getD (0:Int),false,M) else
 match bwSo V O W r dn e l t (bwQ t) (bwL r t) (0,false,false,M) with
 | .inr y=>(0,true,y.1)
 | .inl x=>(x.1,x.2.2.1,mpPut GsSh FxSh (e,l,t,()) x.1 x.2.2.2)
end
/-! The text comes to it. -/
def bw17 (L:List (List Int)):Bool:=decide (L.length≤8)&&L.all fun c=>c.length==17
def bwOk (r:RvI):Bool:=bw17 r.2.1&&bw17 r.2.2
section
variable {α:Type} (K:AExit→AVal→List ABlk→Option α) (D:RvI→Bool→GsI→MqI→Bool) (V:RvI→Bool→GsI→MqI→Int) (O:RvI→Bool→GsI→MqI→Bool) (W:RvI→Bool→GsI→MqI→MqI) (r:RvI) (dn:Bool) (e l t:Int)
def bwHx (y:BwX):List ABlk:=match y.2 with
 | some p=>[bwB r dn true 4,.dead,stA3 e l t,.dead,mqR y.1,stA3 (nnE e l t p) (nnL e l t p) (nnT e l t p)]
 | none=>[bwB r dn true 4,.dead,stA3 e l t,.dead,mqR y.1]
abbrev bwSI (k:Nat) (x:BwS):BwI:=(x.1,x.2.1,(k:Int),r.1,r.2.1,r.2.2,dn,x.2.2.1,x.2.2.2,())
abbrev bwSO (i:Nat) (x:BwT):BwO:=(x.1,x.2.1,(i:Int),r.1,r.2.1,r.2.2,dn,x.2.2.1,x.2.2.2,())
def BwNx:Prop:=∀ k,k < 17→0 < e→nnR e l t (bwPt k)=0∧∀ M,D r dn (nnS e l t (bwPt k)) M=true
theorem bwF_eq (hN:BwNx D r dn e l t) (he:0≤e) {c:List Int} (hc:c.length=17) {k:Nat} (hk:k < 17) (x:BwS):bwF K D V O W e l t c (bwSI r dn k x)=match bwStp V O W r dn e l t c k x with | .inl x'=>some (.cont (bwSI r dn (k + 1) x')) | .inr y=>finL (finL (K .normal (.int .i64 0) (bwHx r dn e l t y))):=by
 have hw:IntKind.i64.wrap ((k:Int) + 1)=((k + 1:Nat):Int):=by rw [IntKind.wrap_i64]; omega
 unfold bwF bwStp
 simp only []
 rw [hc,decide_eq_true (show (k:Int) < ((17:Nat):Int) by omega),cond_true,if_pos ⟨by omega,by omega⟩,Int.toNat_natCast]
 have body:bwP K D V O W e l t (c.getD k 0) (bwPt k) (bwSI r dn k x)=match (bif decide (e > 0) then bif x.2.2.1 then .inr (x.2.2.2,some (bwPt k)) else
  .inl (IntKind.i64.wrap (x.1 + IntKind.i64.wrap (V r dn (nnS e l t (bwPt k)) x.2.2.2 * c.getD k 0)),IntKind.i64.wrap (x.2.1 + c.getD k 0),O r dn (nnS e l t (bwPt k)) x.2.2.2,W r dn (nnS e l t (bwPt k)) x.2.2.2)
 else .inl (IntKind.i64.wrap (x.1 + IntKind.i64.wrap ((bif decide (bwPt k > 0)==(t==0) then 65536 else 0) * c.getD k 0)),IntKind.i64.wrap (x.2.1 + c.getD k 0),x.2.2.1,x.2.2.2):BwS ⊕ BwX) with | .inl x'=>some (.cont (bwSI r dn (k + 1) x')) | .inr y=>finL (finL (K .normal (.int .i64 0) (bwHx r dn e l t y))):=by
  unfold bwP
  cases h0:decide (e > 0)
  ·simp only [cond_false]
   cases decide (bwPt k > 0)==(t==0)
   ·show some (LRes.cont (BwI.to _ _ _ _ _))=some (LRes.cont _)
    unfold BwI.to
    rw [hw]; rfl
   ·show some (LRes.cont (BwI.to _ _ _ _ _))=some (LRes.cont _)
    unfold BwI.to
    rw [hw]; rfl
  ·have hpos:0 < e:=of_decide_eq_true h0
   obtain ⟨h1,h2⟩:=hN k hk hpos
   simp only [cond_true]
   show (bif x.2.2.1 then _ else bif nnR e l t (bwPt k) != 0 then _ else bif !(nnR e l t (bwPt k) != 0)&&D r dn (nnS e l t (bwPt k)) x.2.2.2 then _ else none)=_
   cases x.2.2.1
   ·rw [h1,h2]
    show some (LRes.cont (BwI.to _ _ _ _ _))=some (LRes.cont _)
    unfold BwI.to
    rw [hw]
   ·rfl
 cases h0:e==0
 ·rw [cond_false,Bool.false_and,cond_false]
  exact body
 ·rw [cond_true,Bool.true_and]
  cases hp:(bwPt k==0)
  ·rw [cond_false,cond_false]
   exact body
  ·rw [cond_true,cond_true]
   show some (LRes.cont (BwI.to _ _ _ _ _))=some (LRes.cont _)
   unfold BwI.to
   rw [hw]
theorem bwF_run (hN:BwNx D r dn e l t) (he:0≤e) {c:List Int} (hc:c.length=17) (K':Nat→BwI→Option (LRes BwO α)):∀ (n k:Nat) (x:BwS) (M:Nat),k + n=17→n < M →
  afterL (iterL M (bwF K D V O W e l t c) (bwSI r dn k x)) K'=match bwFo V O W r dn e l t c n k x with | .inl x'=>K' 2 (bwSI r dn 17 x') | .inr y=>finL (K .normal (.int .i64 0) (bwHx r dn e l t y))
 | 0,k,x,M,hk,hM=>by
   obtain ⟨M,rfl⟩:∃ q,M=q + 1:=⟨M - 1,by omega⟩
   have:k=17:=by omega
   subst this
   have e1:bwF K D V O W e l t c (bwSI r dn 17 x)=some (.brk 2 (bwSI r dn 17 x)):=by
    unfold bwF
    simp only []
    rw [hc]; rfl
   rw [iterL,e1]; rfl
 | n + 1,k,x,M,hk,hM=>by
   obtain ⟨M,rfl⟩:∃ q,M=q + 1:=⟨M - 1,by omega⟩
   rw [iterL,bwF_eq K D V O W r dn e l t hN he hc (by omega) x,bwFo]
   cases bwStp V O W r dn e l t c k x with
   | inr y=>
     show _=finL (K .normal (.int .i64 0) (bwHx r dn e l t y))
     simp only
     generalize K .normal (.int .i64 0) (bwHx r dn e l t y)=R
     cases R<;>rfl
   | inl x'=>exact bwF_run hN he hc K' n (k + 1) x' M (by omega) (by omega)
theorem bwU_eq (q:Int→Int→Bool) (v:Int) (i:Nat) (hi:i < 8) (x:BwT) (y:BwS):bwU (α:=α) q v (bwSO r dn i x) (bwSI r dn 17 y)=some (.cont (bwSO r dn (i + 1) (bif !x.2.1 || q v x.1 then (v,true,y.2.2.1,y.2.2.2) else (x.1,x.2.1,y.2.2.1,y.2.2.2)))):=by
 have hw:IntKind.i64.wrap ((i:Int) + 1)=((i + 1:Nat):Int):=by rw [IntKind.wrap_i64]; omega
 unfold bwU
 simp only []
 rw [hw]
 cases x.2.1
 ·rfl
 ·cases q v x.1<;>rfl
theorem bwG_eq (hN:BwNx D r dn e l t) (he:0≤e) (q:Int→Int→Bool) {L:List (List Int)} (hL:bw17 L=true) {i:Nat} (hi:i < L.length) (x:BwT):bwG K D V O W e l t 20 q L (bwSO r dn i x)=match bwSty V O W r dn e l t q (L.getD i []) x with | .inl x'=>some (.cont (bwSO r dn (i + 1) x')) | .inr y=>finL (K .normal (.int .i64 0) (bwHx r dn e l t y)):=by
 unfold bw17 at hL
 rw [Bool.and_eq_true,decide_eq_true_eq] at hL
 have hc:(L.getD i []).length=17:=by
  have hm:L.getD i []∈L:=by
   rw [List.getD_eq_getElem?_getD,List.getElem?_eq_getElem hi]; exact List.getElem_mem hi
  have:=List.all_eq_true.1 hL.2 _ hm
  simpa using this
 unfold bwG bwSty
 simp only []
 rw [decide_eq_true (show (i:Int) < (L.length:Int) by omega),cond_true,if_pos ⟨by omega,by omega⟩,Int.toNat_natCast]
 refine (bwF_run K D V O W r dn e l t hN he hc _ 17 0 (0,0,x.2.2.1,x.2.2.2) 20 (by omega) (by omega)).trans ?_
 cases bwFo V O W r dn e l t (L.getD i []) 17 0 (0,0,x.2.2.1,x.2.2.2) with
 | inr y=>rfl
 | inl y=>
   simp only
   rw [if_pos trivial]
   show (bif y.2.1==0 then _ else if y.2.1=0 then none else bif !dn then if y.2.1=0 then none else bif decide (y.1.tmod y.2.1 > 0) then bwU q (IntKind.i64.wrap (IntKind.i64.wrap (y.1.tdiv y.2.1) + 1)) (bwSO r dn i x) (bwSI r dn 17 y) else bwU q (IntKind.i64.wrap (y.1.tdiv y.2.1)) (bwSO r dn i x) (bwSI r dn 17 y) else bwU q (IntKind.i64.wrap (y.1.tdiv y.2.1)) (bwSO r dn i x) (bwSI r dn 17 y))=_
   cases h0:y.2.1==0
   ·have hne:¬ y.2.1=0:=beq_eq_false_iff_ne.1 h0
    rw [if_neg hne,if_neg hne,bwU_eq r dn q _ i (by omega),bwU_eq r dn q _ i (by omega)]
    unfold bwVal
    cases dn
    ·cases decide (y.1.tmod y.2.1 > 0)<;>rfl
    ·rfl
   ·rfl
theorem bwG_run (hN:BwNx D r dn e l t) (he:0≤e) (q:Int→Int→Bool) {L:List (List Int)} (hL:bw17 L=true) (K':Nat→BwO→Option α):∀ (n i:Nat) (x:BwT) (M:Nat),i + n=L.length→n < M →
  afterL (iterL M (bwG K D V O W e l t 20 q L) (bwSO r dn i x)) K'=match bwSo V O W r dn e l t q (L.drop i) x with | .inl x'=>K' 0 (bwSO r dn L.length x') | .inr y=>K .normal (.int .i64 0) (bwHx r dn e l t y)
 | 0,i,x,M,hk,hM=>by
   obtain ⟨M,rfl⟩:∃ q,M=q + 1:=⟨M - 1,by omega⟩
   have:i=L.length:=by omega
   subst this
   have e1:bwG K D V O W e l t 20 q L (bwSO r dn L.length x)=some (.brk 0 (bwSO r dn L.length x)):=by
    unfold bwG
    simp only []
    rw [decide_eq_false (show ¬ (L.length:Int) < (L.length:Int) by omega)]; rfl
   rw [iterL,e1,List.drop_length]; rfl
 | n + 1,i,x,M,hk,hM=>by
   obtain ⟨M,rfl⟩:∃ q,M=q + 1:=⟨M - 1,by omega⟩
   have hi:i < L.length:=by omega
   have hd:L.drop i=L.getD i [] :: L.drop (i + 1):=by
    rw [List.getD_eq_getElem?_getD,List.getElem?_eq_getElem hi]
    exact List.drop_eq_getElem_cons hi
   rw [iterL,bwG_eq K D V O W r dn e l t hN he q hL hi x,hd,bwSo]
   cases bwSty V O W r dn e l t q (L.getD i []) x with
   | inr y=>
     show _=K .normal (.int .i64 0) (bwHx r dn e l t y)
     simp only
     generalize K .normal (.int .i64 0) (bwHx r dn e l t y)=R
     cases R<;>rfl
   | inl x'=>exact bwG_run hN he q hL K' n (i + 1) x' M (by omega) (by omega)
def bwHz (M:MqI):List ABlk:=
 bif e==0&&l != 0 then [bwB r dn false 1,mqR M,stA3 e l t] else
 bif (mpFind GsSh FxSh (e,l,t,()) M).isSome then [bwB r dn false 1,mqR M,stA3 e l t] else
 match bwSo V O W r dn e l t (bwQ t) (bwL r t) (0,false,false,M) with
 | .inr y=>bwHx r dn e l t y
 | .inl x=>[bwB r dn x.2.2.1 3,.dead,stA3 e l t,mqR (mpPut GsSh FxSh (e,l,t,()) x.1 x.2.2.2)]
theorem bwT_run (hN:BwNx D r dn e l t) (he:0≤e) (hr:bwOk r=true) (M:MqI):bwT K D V O W e l t 20 (bwQ t) (bwL r t) r.1 r.2.1 r.2.2 dn M=K .normal (.int .i64 (bwRes V O W r dn e l t M).1) (bwHz V O W r dn e l t M):=by
 have hL:bw17 (bwL r t)=true:=by
  unfold bwOk at hr
  rw [Bool.and_eq_true] at hr
  unfold bwL
  cases t==0
  ·exact hr.2
  ·exact hr.1
 have hlen:(bwL r t).length≤8:=by
  unfold bw17 at hL
  rw [Bool.and_eq_true,decide_eq_true_eq] at hL
  exact hL.1
 have hz:bwZ K D V O W e l t 20 (bwQ t) (bwL r t) r.1 r.2.1 r.2.2 dn M=(bif (mpFind GsSh FxSh (e,l,t,()) M).isSome then K .normal (.int .i64 ((mpFind GsSh FxSh (e,l,t,()) M).getD (0:Int))) [bwB r dn false 1,mqR M,stA3 e l t] else
   match bwSo V O W r dn e l t (bwQ t) (bwL r t) (0,false,false,M) with
   | .inr y=>K .normal (.int .i64 0) (bwHx r dn e l t y)
   | .inl x=>K .normal (.int .i64 x.1) [bwB r dn x.2.2.1 3,.dead,stA3 e l t,mqR (mpPut GsSh FxSh (e,l,t,()) x.1 x.2.2.2)]):=by
  unfold bwZ
  cases (mpFind GsSh FxSh (e,l,t,()) M).isSome
  ·simp only [cond_false]
   refine (bwG_run K D V O W r dn e l t hN he (bwQ t) hL _ (bwL r t).length 0 (0,false,false,M) 20 (by omega) (by omega)).trans ?_
   rw [List.drop_zero]
   cases bwSo V O W r dn e l t (bwQ t) (bwL r t) (0,false,false,M)<;>rfl
  ·rfl
 unfold bwT bwRes bwHz
 rw [hz]
 cases e==0
 ·simp only [cond_false,Bool.false_and]
  cases (mpFind GsSh FxSh (e,l,t,()) M).isSome
  ·simp only [cond_false]
   cases bwSo V O W r dn e l t (bwQ t) (bwL r t) (0,false,false,M)<;>rfl
  ·rfl
 ·cases l != 0
  ·simp only [cond_false,cond_true,Bool.and_false]
   cases (mpFind GsSh FxSh (e,l,t,()) M).isSome
   ·simp only [cond_false]
    cases bwSo V O W r dn e l t (bwQ t) (bwL r t) (0,false,false,M)<;>rfl
   ·rfl
  ·cases decide (l > 0)<;>rfl
theorem bwHz_end (M:MqI):∃ q,BwEnd r dn (bwRes V O W r dn e l t M).2.1 (bwRes V O W r dn e l t M).2.2 (bwHz V O W r dn e l t M) q:=by
 unfold bwRes bwHz
 cases e==0&&l != 0
 ·simp only [cond_false]
  cases (mpFind GsSh FxSh (e,l,t,()) M).isSome
  ·simp only [cond_false]
   cases bwSo V O W r dn e l t (bwQ t) (bwL r t) (0,false,false,M) with
   | inr y=>
     obtain ⟨M',o⟩:=y
     cases o with
     | none=>exact ⟨4,rfl,rfl,by omega⟩
     | some p=>exact ⟨4,rfl,rfl,by omega⟩
   | inl x=>exact ⟨3,rfl,rfl,by omega⟩
  ·exact ⟨1,rfl,rfl,by omega⟩
 ·cases decide (l > 0)
  ·exact ⟨1,rfl,rfl,by omega⟩
  ·exact ⟨1,rfl,rfl,by omega⟩
end
def bwN:Nat→RvI→Bool→GsI→MqI→Int × Bool × MqI
 | 0,_,_,_,M=>(0,true,M)
 | k + 1,r,dn,s,M=>bwRes (fun r dn s M=>(bwN k r dn s M).1) (fun r dn s M=>(bwN k r dn s M).2.1) (fun r dn s M=>(bwN k r dn s M).2.2) r dn s.1 s.2.1 s.2.2.1 M
def bwV (k:Nat) (r:RvI) (dn:Bool) (s:GsI) (M:MqI):Int:=(bwN k r dn s M).1
def bwOd (k:Nat) (r:RvI) (dn:Bool) (s:GsI) (M:MqI):Bool:=(bwN k r dn s M).2.1
def bwW (k:Nat) (r:RvI) (dn:Bool) (s:GsI) (M:MqI):MqI:=(bwN k r dn s M).2.2
def bwD (k:Nat) (r:RvI) (_:Bool) (s:GsI) (_:MqI):Bool:=bwOk r&&(stB s&&decide (s.1 < (k:Int)))
theorem bwPt_in {k:Nat} (hk:k < 17):bwPt k=(k:Int) - 8:=by
 show IntKind.i64.wrap ((k:Int) - 8)=_
 rw [IntKind.wrap_i64]; omega
theorem nnS_ok {e l t:Int} (hs:stB (e,l,t,())=true) (h0:0 < e) {k:Nat} (hk:k < 17):nnR e l t (bwPt k)=0∧nnS e l t (bwPt k)=nxG e l t (bwPt k):=by
 have hp:ptB (bwPt k)=true:=by
  rw [bwPt_in hk]; unfold ptB
  rw [decide_eq_true (by omega),decide_eq_true (by omega)]; rfl
 have he:(e==0)=false:=beq_eq_false_iff_ne.2 (by omega)
 have hb:nnB e l t (bwPt k)=true:=by unfold nnB; rw [hs,hp,he]; rfl
 constructor
 ·unfold nnR; rw [hs,hp,he]; rfl
 ·unfold nnS nnE nnL nnT; rw [hb]; rfl
theorem bw_nx {k:Nat} {r:RvI} {dn:Bool} {e l t:Int} (hr:bwOk r=true) (hs:stB (e,l,t,())=true) (he:e < (k:Int) + 1):BwNx (bwD k) r dn e l t:=fun j hj h0=>by
 obtain ⟨h1,h2⟩:=nnS_ok (l:=l) (t:=t) hs h0 hj
 refine ⟨h1,fun M=>?_⟩
 rw [h2]
 have h3:=nx_st (p:=bwPt j) hs h0
 have h4:=nx_e h0 (stB_in hs).1.2
 unfold bwD
 rw [hr,h3,decide_eq_true (show (nxG e l t (bwPt j)).1 < (k:Int) by show nxE e < _; omega)]; rfl
theorem bw_at:∀ (k:Nat) (cv:Cv) (caps:List AVal),CvAt Try.prog (bwX (bwD k) (bwV k) (bwOd k) (bwW k) cv) (.fn 8 caps)
 | 0,cv,caps=>bwX_at spK_ok (fun r dn s M hD=>by
   exfalso
   unfold bwD at hD
   simp only [Bool.and_eq_true,decide_eq_true_eq] at hD
   have:=(stB_in hD.2.1).1.1
   omega) cv caps
 | k + 1,cv,caps=>bwX_at (sp:=spBw (bwD k) (bwV k) (bwOd k) (bwW k)) (sp_cons (fun cv _ caps=>bw_at k cv caps) spK_ok) (fun r dn s M hD=>by
     unfold bwD at hD
     simp only [Bool.and_eq_true,decide_eq_true_eq] at hD
     obtain ⟨hr,hs,he⟩:=hD
     obtain ⟨e,l,t,u⟩:=s
     have he':e < (k:Int) + 1:=by have:e < ((k + 1:Nat):Int):=he; omega
     have hs':stB (e,l,t,())=true:=hs
     obtain ⟨⟨h0,_⟩,_,ht⟩:=stB_in hs'
     have hN:=bw_nx (dn:=dn) hr hs' he'
     have run:=fun K=>bwT_run (α:=AExit × AVal × List ABlk) K (bwD k) (bwV k) (bwOd k) (bwW k) r dn e l t hN h0 hr M
     obtain ⟨q,hq⟩:=bwHz_end (bwV k) (bwOd k) (bwW k) r dn e l t M
     refine ⟨20,30,bwHz (bwV k) (bwOd k) (bwW k) r dn e l t M,q,?_,hq⟩
     have ht':t=0∨t=1:=ht
     rcases ht' with rfl | rfl
     ·exact (bw0_text 20 0 _ (bwD k) (bwV k) (bwOd k) (bwW k) r.1 r.2.1 r.2.2 dn M e l tripE).trans (run tripE)
     ·exact (bw1_text 20 0 _ (bwD k) (bwV k) (bwOd k) (bwW k) r.1 r.2.1 r.2.2 dn M e l tripE).trans (run tripE)) cv caps
noncomputable def spBc:FuncId→Option (Cv→Cv):=spBw (bwD 13) (bwV 13) (bwOd 13) (bwW 13)
theorem spBc_ok:SpOk spBc:=sp_cons (fun cv _ caps=>bw_at 13 cv caps) spK_ok
end Go.Proofs.Ytneggblnfobfcaa
namespace Go.Proofs.Ytneggblnfobfcaa
open Go.RowKit
theorem rndP_small {how n d:Int} {neg:Bool} (h0:0≤n) (hd:0 < d) (h:n / d < 18446744073709551614):rndP how neg n d=rnd how neg n d:=by
 have h1:=Int.ediv_nonneg h0 (Int.le_of_lt hd)
 unfold rndP
 rw [decide_eq_true (by omega),cond_true]
 unfold rnd
 cases up1 how neg (n % d) d<;>simp only [cond_true,cond_false]<;>omega
theorem rnd_down {s d:Int} (hd:0 < d):sg (ngB s) (rnd 1 (ngB s) (ab s) d)=s / d:=by
 unfold rnd up1 sg ngB ab
 have e1:=Int.emod_add_mul_ediv s d
 have e2:=Int.emod_nonneg s (show d≠0 by omega)
 have e3:=Int.emod_lt_of_pos s hd
 by_cases h:s < 0
 ·rw [decide_eq_true h,if_pos h]
  simp only [cond_true,if_pos rfl,Bool.and_true]
  have f1:=Int.emod_add_mul_ediv (-s) d
  have f2:=Int.emod_nonneg (-s) (show d≠0 by omega)
  have f3:=Int.emod_lt_of_pos (-s) hd
  by_cases hz:(-s) % d=0
  ·rw [hz,decide_eq_false (by omega)]
   simp only [Bool.false_and,cond_false]
   have hs:s % d=0:=by
    have:=Int.emod_emod_of_dvd s (Int.dvd_refl d)
    exact (Int.emod_eq_zero_of_dvd (by have:=Int.dvd_of_emod_eq_zero hz; exact (Int.dvd_neg).1 this))
   have:d * (-s / d) + d * (s / d)=0:=by omega
   have:d * (-s / d + s / d)=0:=by rw [Int.mul_add]; omega
   have:=(Int.mul_eq_zero.1 this).resolve_left (by omega)
   omega
  ·rw [decide_eq_true (by omega)]
   simp only [ite_true,Bool.true_and,cond_true]
   have hs:s % d≠0:=fun hs=>hz (Int.emod_eq_zero_of_dvd ((Int.dvd_neg).2 (Int.dvd_of_emod_eq_zero hs)))
   have h1:d * (-s / d + s / d)=-((-s) % d) - s % d:=by rw [Int.mul_add]; omega
   have h2:-s / d + s / d=-1:=by
    have a:-s / d + s / d < 0:=by
     rcases Int.lt_or_le (-s / d + s / d) 0 with q | q
     ·exact q
     ·have:=Int.mul_nonneg (Int.le_of_lt hd) q; omega
    have b:-2 < -s / d + s / d:=by
     rcases Int.lt_or_le (-2) (-s / d + s / d) with q | q
     ·exact q
     ·have:=Int.mul_le_mul_of_nonneg_left q (Int.le_of_lt hd); omega
    omega
   omega
 ·rw [decide_eq_false h,if_neg h]
  simp
theorem i64_in (n:Int) (h:-9223372036854775808≤n∧n≤9223372036854775807):IntKind.i64.wrap n=n:=by rw [IntKind.wrap_i64]; omega
theorem ab_pos {x:Int} (h:0≤x):ab x=x:=by unfold ab; rw [if_neg (by omega)]
theorem ng_pos {x:Int} (h:0≤x):ngB x=false:=decide_eq_false (by omega)
/-! Folds and sums over places. -/
def foN (op:Int→Int→Int) (v:Nat→Int):Nat→Int
 | 0=>v 0
 | i + 1=>op (foN op v i) (v (i + 1))
def kdoN (c v:Nat→Int):Nat→Int
 | 0=>0
 | i + 1=>kdoN c v i + c i * v i
def smN (c:Nat→Int):Nat→Int
 | 0=>0
 | i + 1=>smN c i + c i
def atL (l:List Int) (i:Nat):Int:=l.getD i 0
def mqL (c v:Nat→Int) (n:Nat) (d:Int):Int:=(d * foN mnI v (n - 1) + kdoN c v n) / (smN c n + d)
def mqH (c v:Nat→Int) (n:Nat) (d:Int):Int:=-((-(d * foN mxI v (n - 1) + kdoN c v n)) / (smN c n + d))
theorem mnV_fo (op:Int→Int→Int) (v:List Int):∀ i,mnV op v i=foN op (atL v) i
 | 0=>rfl
 | i + 1=>by rw [mnV,foN,mnV_fo op v i]; rfl
theorem mxI_or (a b:Int):(a < b∧mxI a b=b)∨(b≤a∧mxI a b=a):=by unfold mxI; split<;>omega
theorem mnI_or (a b:Int):(b < a∧mnI a b=b)∨(a≤b∧mnI a b=a):=by unfold mnI; split<;>omega
theorem kmx_in {B:Int} {v:Nat→Int} {op:Int→Int→Int} (ho:op=mxI∨op=mnI):∀ n,(∀ i,i≤n→0≤v i∧v i≤B)→0≤foN op v n∧foN op v n≤B
 | 0,h=>h 0 (Nat.le_refl _)
 | n + 1,h=>by
   have h1:=kmx_in ho n fun i hi=>h i (by omega)
   have h2:=h (n + 1) (Nat.le_refl _)
   rw [foN]
   rcases ho with rfl | rfl
   ·rcases mxI_or (foN mxI v n) (v (n + 1)) with ⟨_,e⟩ | ⟨_,e⟩<;>rw [e]<;>omega
   ·rcases mnI_or (foN mnI v n) (v (n + 1)) with ⟨_,e⟩ | ⟨_,e⟩<;>rw [e]<;>omega
theorem mul_nn {a b c:Int} (h1:0≤a) (h2:0≤b) (h3:a≤c) {B:Int} (h4:b≤B) (h5:0≤B):0≤a * b∧a * b≤c * B:=by
 refine ⟨Int.mul_nonneg h1 h2,?_⟩
 have a1:=Int.mul_le_mul_of_nonneg_left h4 h1
 have a2:=Int.mul_le_mul_of_nonneg_right h3 h5
 omega
theorem do_in {c v:Nat→Int}:∀ n,(∀ i,i < n→(0≤c i∧c i≤1000000)∧0≤v i∧v i≤65536)→0≤kdoN c v n∧kdoN c v n≤65536000000 * (n:Int)
 | 0,_=>⟨Int.le_refl _,Int.le_refl _⟩
 | n + 1,h=>by
   have h1:=do_in n fun i hi=>h i (by omega)
   obtain ⟨h2,h3⟩:=h n (by omega)
   have h4:=mul_nn h2.1 h3.1 h2.2 h3.2 (show (0:Int)≤65536 by omega)
   rw [kdoN]
   omega
theorem sm_in {c:Nat→Int}:∀ n,(∀ i,i < n→0≤c i∧c i≤1000000)→0≤smN c n∧smN c n≤1000000 * (n:Int)
 | 0,_=>⟨Int.le_refl _,Int.le_refl _⟩
 | n + 1,h=>by
   have h1:=sm_in n fun i hi=>h i (by omega)
   have h2:=h n (by omega)
   rw [smN]
   omega
theorem suW_sm {c:List Int} (hc:∀ i,i < 17→0≤atL c i∧atL c i≤1000000):∀ n,n≤17→suW c n=smN (atL c) n
 | 0,_=>rfl
 | n + 1,h=>by
   have h1:=sm_in (c:=atL c) n fun i hi=>hc i (by omega)
   have h2:=hc n (by omega)
   rw [suW,smN,suW_sm hc n (by omega)]
   show IntKind.i64.wrap (smN (atL c) n + atL c n)=_
   rw [IntKind.wrap_i64]; omega
theorem toV_do {c v:List Int} {x:Int} (hx:0≤x∧x≤65536000) (h:∀ i,i < 17→(0≤atL c i∧atL c i≤1000000)∧0≤atL v i∧atL v i≤65536):∀ n,n≤17→toV c v x n=x + kdoN (atL c) (atL v) n
 | 0,_=>(Int.add_zero x).symm
 | n + 1,hn=>by
   have h1:=do_in (c:=atL c) (v:=atL v) n fun i hi=>h i (by omega)
   obtain ⟨h2,h3⟩:=h n (by omega)
   have h4:=mul_nn h2.1 h3.1 h2.2 h3.2 (show (0:Int)≤65536 by omega)
   rw [toV,kdoN,toV_do hx h n (by omega)]
   show IntKind.i64.wrap (x + kdoN (atL c) (atL v) n + IntKind.i64.wrap (atL c n * atL v n))=_
   rw [i64_in (atL c n * atL v n) (by omega),IntKind.wrap_i64]; omega
/-! The rest's share. -/
theorem rnd_neg (neg:Bool) (n d:Int):rnd 2 neg n d=rnd 1 (!neg) n d:=by
 unfold rnd up1
 simp
theorem rnd_up {s d:Int} (hd:0 < d):sg (ngB s) (rnd 2 (ngB s) (ab s) d)=-((-s) / d):=by
 by_cases h0:s=0
 ·subst h0
  unfold rnd up1 sg ngB ab
  simp
 ·rw [rnd_neg,← rnd_down hd]
  have e1:ngB (-s)=!ngB s:=by
   unfold ngB
   by_cases h:s < 0
   ·rw [decide_eq_true h,decide_eq_false (by omega)]; rfl
   ·rw [decide_eq_false h,decide_eq_true (by omega)]; rfl
  have e2:ab (-s)=ab s:=by unfold ab; split<;>split<;>omega
  rw [e1,e2]
  unfold sg
  cases ngB s<;>simp
theorem rnd_le {s d:Int} (hd:0 < d) (how:Int) (neg:Bool) (h:ab s < d):0≤rnd how neg (ab s) d∧rnd how neg (ab s) d≤1:=by
 have h0:=ab_nn s
 unfold rnd
 rw [Int.ediv_eq_zero_of_lt h0 h]
 cases up1 how neg (ab s % d) d<;>simp
theorem sl_one {s d how:Int} (hw:how=1∨how=2) (hd:0 < d∧d≤2000000000) (h:ab s < d):slV s 1 d how=sg (ngB s) (rnd how (ngB s) (ab s) d):=by
 have h0:=ab_nn s
 have h1:=rnd_le hd.1 how (ngB s) h
 have hab:-2000000000≤s∧s≤2000000000:=by unfold ab at h; split at h<;>omega
 have hg:scG s 1 d=ngB s:=by
  unfold scG
  rw [ng_pos (show (0:Int)≤1 by omega),ng_pos (show 0≤d by omega)]
  unfold xorB
  cases ngB s<;>rfl
 have hP:slP s 1 d how=rnd how (ngB s) (ab s) d:=by
  unfold slP
  rw [hg,ab_pos (show (0:Int)≤1 by omega),ab_pos (show 0≤d by omega),Int.mul_one]
  exact rndP_small h0 hd.1 (by rw [Int.ediv_eq_zero_of_lt h0 h]; omega)
 have hok:slOk s 1 d=true:=by
  unfold slOk
  rw [ok_iff.2 (by omega),rate_iff.2 (by omega),rate_iff.2 (by omega)]; rfl
 have hd0:(d==0)=false:=by simp; omega
 have hf:fxB (rnd how (ngB s) (ab s) d)=true:=by simp only [fxB,decide_eq_true_eq]; omega
 unfold slV
 rw [hok,hd0,hP,hg]
 unfold fxV
 rw [hf]
 rfl
/-! The mean's bounds. -/
structure C17 (c:List Int):Prop where
 w:cntW c=true
 len:c.length=17
structure V17 (v:List Int):Prop where
 len:v.length=17
 bd:∀ i,i < 17→0≤atL v i∧atL v i≤65536
theorem C17.bd {c:List Int} (h:C17 c):∀ i,i < 17→0≤atL c i∧atL c i≤1000000:=fun i hi=>by
 have h1:=h.w
 unfold cntW at h1
 simp only [Bool.and_eq_true,Bool.not_eq_true',List.any_eq_false] at h1
 have:=h1.2.2 i (List.mem_range.2 (by rw [h.len]; exact hi))
 unfold cnO at this
 simpa [atL] using this
theorem mnB_17 {c v:List Int} (hc:C17 c) (hv:V17 v) {d:Int} (hd:1≤d∧d≤1000):mnB c v d=true:=by
 unfold mnB
 have hx:((List.range v.length).any fun i=>!vaO (v.getD i 0))=false:=by
  rw [List.any_eq_false]
  intro i hi
  have:=hv.bd i (by have:=List.mem_range.1 hi; rw [hv.len] at this; exact this)
  unfold atL at this
  unfold vaO
  rw [decide_eq_true (by omega),decide_eq_true (by omega)]
  simp
 rw [hc.w,hx,hc.len,hv.len,decide_eq_true hd.1,decide_eq_true hd.2]
 rfl
theorem meO_17 {op:Int→Int→Int} (ho:op=mxI∨op=mnI) {c v:List Int} (hc:C17 c) (hv:V17 v) {d:Int} (hd:1≤d∧d≤1000):meO op c v d=d * foN op (atL v) 16 + kdoN (atL c) (atL v) 17∧0≤d * foN op (atL v) 16 + kdoN (atL c) (atL v) 17∧d * foN op (atL v) 16 + kdoN (atL c) (atL v) 17≤1200000000000:=by
 have h1:=kmx_in ho 16 (v:=atL v) (B:=65536) fun i hi=>hv.bd i (by omega)
 have h2:=mul_nn (show 0≤d by omega) h1.1 hd.2 h1.2 (show (0:Int)≤65536 by omega)
 have h3:=do_in (c:=atL c) (v:=atL v) 17 fun i hi=>⟨hc.bd i hi,hv.bd i hi⟩
 refine ⟨?_,by omega,by omega⟩
 unfold meO
 rw [mnV_fo,hv.len,hc.len,show (17:Nat) - 1=16 from rfl,i64_in _ (by omega)]
 exact toV_do (by omega) (fun i hi=>⟨hc.bd i hi,hv.bd i hi⟩) 17 (Nat.le_refl _)
theorem meN_17 {c:List Int} (hc:C17 c) {d:Int} (hd:1≤d∧d≤1000):meN c d=smN (atL c) 17 + d∧1≤smN (atL c) 17 + d∧smN (atL c) 17 + d≤17001000:=by
 have h1:=sm_in (c:=atL c) 17 hc.bd
 refine ⟨?_,by omega,by omega⟩
 unfold meN
 rw [hc.len,suW_sm hc.bd 17 (Nat.le_refl _),i64_in _ (by omega)]
theorem me_lo {c v:List Int} (hc:C17 c) (hv:V17 v) {d:Int} (hd:1≤d∧d≤1000):meW mnI 1 c v d=mqL (atL c) (atL v) 17 d:=by
 obtain ⟨e1,x0,x1⟩:=meO_17 (.inr rfl) hc hv hd
 obtain ⟨e2,n0,n1⟩:=meN_17 hc hd
 unfold meW mqL
 rw [e1,e2]
 generalize d * foN mnI (atL v) (17 - 1) + kdoN (atL c) (atL v) 17=X at *
 generalize smN (atL c) 17 + d=n at *
 have m0:=Int.emod_nonneg X (show n≠0 by omega)
 have m1:=Int.emod_lt_of_pos X (show 0 < n by omega)
 have q0:=Int.ediv_nonneg x0 (show 0≤n by omega)
 have q1:X / n≤X:=Int.ediv_le_self n x0
 rw [Int.tdiv_eq_ediv_of_nonneg x0,Int.tmod_eq_emod_of_nonneg x0,sl_one (.inl rfl) (by omega) (by rw [ab_pos m0]; exact m1),rnd_down (by omega),Int.ediv_eq_zero_of_lt m0 m1,i64_in (X / n) (by omega),Int.add_zero,i64_in _ (by omega)]
theorem me_hi {c v:List Int} (hc:C17 c) (hv:V17 v) {d:Int} (hd:1≤d∧d≤1000):meW mxI 2 c v d=mqH (atL c) (atL v) 17 d:=by
 obtain ⟨e1,x0,x1⟩:=meO_17 (.inl rfl) hc hv hd
 obtain ⟨e2,n0,n1⟩:=meN_17 hc hd
 unfold meW mqH
 rw [e1,e2]
 generalize d * foN mxI (atL v) (17 - 1) + kdoN (atL c) (atL v) 17=X at *
 generalize smN (atL c) 17 + d=n at *
 have m0:=Int.emod_nonneg X (show n≠0 by omega)
 have m1:=Int.emod_lt_of_pos X (show 0 < n by omega)
 have q0:=Int.ediv_nonneg x0 (show 0≤n by omega)
 have q1:X / n≤X:=Int.ediv_le_self n x0
 have hs:(-X) / n=(-(X % n)) / n + -(X / n):=by
  rw [← Int.add_mul_ediv_right _ _ (show n≠0 by omega)]
  congr 1
  have:=Int.emod_add_mul_ediv X n
  have e:-(X / n) * n=-(n * (X / n)):=by rw [Int.neg_mul,Int.mul_comm]
  omega
 have r0:-1≤(-(X % n)) / n∧(-(X % n)) / n≤0:=by
  constructor
  ·exact (Int.le_ediv_iff_mul_le (show 0 < n by omega)).2 (by omega)
  ·have:=Int.ediv_le_ediv (show 0 < n by omega) (show -(X % n)≤0 by omega)
   rw [Int.zero_ediv] at this; exact this
 rw [Int.tdiv_eq_ediv_of_nonneg x0,Int.tmod_eq_emod_of_nonneg x0,sl_one (.inr rfl) (by omega) (by rw [ab_pos m0]; exact m1),rnd_up (by omega),i64_in (X / n) (by omega),i64_in _ (by omega),hs]
 omega
theorem meH_17 {c lo hi:List Int} (hc:C17 c) (h1:V17 lo) (h2:V17 hi) {d:Int} (hd:1≤d∧d≤1000):meH c lo hi d=(mqL (atL c) (atL lo) 17 d,mqH (atL c) (atL hi) 17 d,()):=by
 unfold meH
 rw [mnB_17 hc h1 hd,mnB_17 hc h2 hd,me_lo hc h1 hd,me_hi hc h2 hd]
 rfl
/-! What is so of quotients. -/
theorem fo_congr {op:Int→Int→Int} {v w:Nat→Int}:∀ n,(∀ i,i≤n→v i=w i)→foN op v n=foN op w n
 | 0,h=>h 0 (Nat.le_refl _)
 | n + 1,h=>by rw [foN,foN,fo_congr n fun i hi=>h i (by omega),h (n + 1) (Nat.le_refl _)]
theorem do_congr {c v w:Nat→Int}:∀ n,(∀ i,i < n→v i=w i)→kdoN c v n=kdoN c w n
 | 0,_=>rfl
 | n + 1,h=>by rw [kdoN,kdoN,do_congr n fun i hi=>h i (by omega),h n (by omega)]
theorem mqL_congr {c v w:Nat→Int} {d:Int} (h:∀ i,i < 17→v i=w i):mqL c v 17 d=mqL c w 17 d:=by
 unfold mqL
 rw [fo_congr (17 - 1) fun i hi=>h i (by omega),do_congr 17 h]
theorem mqH_congr {c v w:Nat→Int} {d:Int} (h:∀ i,i < 17→v i=w i):mqH c v 17 d=mqH c w 17 d:=by
 unfold mqH
 rw [fo_congr (17 - 1) fun i hi=>h i (by omega),do_congr 17 h]
theorem fo_mono {op:Int→Int→Int} (ho:op=mxI∨op=mnI) {v w:Nat→Int}:∀ n,(∀ i,i≤n→v i≤w i)→foN op v n≤foN op w n
 | 0,h=>h 0 (Nat.le_refl _)
 | n + 1,h=>by
   have h1:=fo_mono ho n fun i hi=>h i (by omega)
   have h2:=h (n + 1) (Nat.le_refl _)
   rw [foN,foN]
   rcases ho with rfl | rfl
   ·rcases mxI_or (foN mxI v n) (v (n + 1)) with ⟨_,e⟩ | ⟨_,e⟩<;>rcases mxI_or (foN mxI w n) (w (n + 1)) with ⟨_,e'⟩ | ⟨_,e'⟩<;>rw [e,e']<;>omega
   ·rcases mnI_or (foN mnI v n) (v (n + 1)) with ⟨_,e⟩ | ⟨_,e⟩<;>rcases mnI_or (foN mnI w n) (w (n + 1)) with ⟨_,e'⟩ | ⟨_,e'⟩<;>rw [e,e']<;>omega
theorem fo_le {v w:Nat→Int}:∀ n,(∀ i,i≤n→v i≤w i)→foN mnI v n≤foN mxI w n
 | 0,h=>h 0 (Nat.le_refl _)
 | n + 1,h=>by
   have h1:=fo_le n fun i hi=>h i (by omega)
   have h2:=h (n + 1) (Nat.le_refl _)
   rw [foN,foN]
   rcases mnI_or (foN mnI v n) (v (n + 1)) with ⟨_,e⟩ | ⟨_,e⟩<;>rcases mxI_or (foN mxI w n) (w (n + 1)) with ⟨_,e'⟩ | ⟨_,e'⟩<;>rw [e,e']<;>omega
theorem do_mono {c v w:Nat→Int}:∀ n,(∀ i,i < n→0≤c i∧v i≤w i)→kdoN c v n≤kdoN c w n
 | 0,_=>Int.le_refl _
 | n + 1,h=>by
   have h1:=do_mono n fun i hi=>h i (by omega)
   have h2:=h n (by omega)
   have:=Int.mul_le_mul_of_nonneg_left h2.2 h2.1
   rw [kdoN,kdoN]
   omega
theorem do_top {c v:Nat→Int}:∀ n,(∀ i,i < n→0≤c i∧v i≤65536)→kdoN c v n≤65536 * smN c n
 | 0,_=>Int.le_refl _
 | n + 1,h=>by
   have h1:=do_top n fun i hi=>h i (by omega)
   have h2:=h n (by omega)
   have:=Int.mul_le_mul_of_nonneg_left h2.2 h2.1
   rw [kdoN,smN]
   omega
theorem floor_ceil {X n:Int} (hn:0 < n):X / n≤-((-X) / n):=by
 have h1:=Int.ediv_mul_le X (show n≠0 by omega)
 have h2:=Int.ediv_mul_le (-X) (show n≠0 by omega)
 have h3:(X / n + (-X) / n) * n≤0:=by rw [Int.add_mul]; omega
 have:X / n + (-X) / n≤0:=by
  rcases Int.lt_or_le 0 (X / n + (-X) / n) with h | h
  ·have:=Int.mul_pos h hn; omega
  ·exact h
 omega
theorem mq_le {c v w:Nat→Int} {d:Int} (hc:∀ i,i < 17→0≤c i∧c i≤1000000) (hd:1≤d∧d≤1000) (h:∀ i,i < 17→v i≤w i):mqL c v 17 d≤mqH c w 17 d:=by
 have s:=sm_in 17 hc
 have f:=fo_le (17 - 1) fun i hi=>h i (by omega)
 have g:=do_mono 17 fun i hi=>⟨(hc i hi).1,h i hi⟩
 have m:=Int.mul_le_mul_of_nonneg_left f (show 0≤d by omega)
 exact Int.le_trans (Int.ediv_le_ediv (by omega) (show _≤d * foN mxI w (17 - 1) + kdoN c w 17 by omega)) (floor_ceil (by omega))
theorem mqL_nn {c v:Nat→Int} {d:Int} (hc:∀ i,i < 17→0≤c i∧c i≤1000000) (hd:1≤d∧d≤1000) (h:∀ i,i < 17→0≤v i∧v i≤65536):0≤mqL c v 17 d:=by
 have s:=sm_in 17 hc
 have f:=kmx_in (.inr rfl) (17 - 1) (v:=v) (B:=65536) fun i hi=>h i (by omega)
 have g:=do_in 17 fun i hi=>⟨hc i hi,h i hi⟩
 have m:=Int.mul_nonneg (show 0≤d by omega) f.1
 exact Int.ediv_nonneg (by omega) (by omega)
theorem mqH_top {c v:Nat→Int} {d:Int} (hc:∀ i,i < 17→0≤c i∧c i≤1000000) (hd:1≤d∧d≤1000) (h:∀ i,i < 17→0≤v i∧v i≤65536):mqH c v 17 d≤65536:=by
 have s:=sm_in 17 hc
 have f:=kmx_in (.inl rfl) (17 - 1) (v:=v) (B:=65536) fun i hi=>h i (by omega)
 have g:=do_top 17 fun i hi=>⟨(hc i hi).1,(h i hi).2⟩
 have m:=Int.mul_le_mul_of_nonneg_left f.2 (show 0≤d by omega)
 unfold mqH
 have:-65536≤(-(d * foN mxI v (17 - 1) + kdoN c v 17)) / (smN c 17 + d):=(Int.le_ediv_iff_mul_le (by omega)).2 (by omega)
 omega
structure OkH (h:HpI):Prop where
 lo:0≤h.1
 le:h.1≤h.2.1
 hi:h.2.1≤65536
structure LeH (a b:HpI):Prop where
 lo:a.1≤b.1
 hi:a.2.1≤b.2.1
theorem LeH.refl (a:HpI):LeH a a:=⟨Int.le_refl _,Int.le_refl _⟩
theorem LeH.trans {a b c:HpI} (h:LeH a b) (g:LeH b c):LeH a c:=⟨Int.le_trans h.lo g.lo,Int.le_trans h.hi g.hi⟩
def loS (F:Nat→HpI) (i:Nat):Int:=(F i).1
def hiS (F:Nat→HpI) (i:Nat):Int:=(F i).2.1
def syF (d:Int) (c:List Int) (F:Nat→HpI):HpI:=(mqL (atL c) (loS F) 17 d,mqH (atL c) (hiS F) 17 d,())
def seqH (V:RvI→GsI→HpI) (r:RvI) (e l t:Int) (i:Nat):HpI:=hpO V r e l t ((i:Int) - 8)
theorem pn_lo (V:RvI→GsI→HpI) (r:RvI) (e l t:Int) (i:Nat) (hi:i < 17):atL ((pnL V r e l t 17).map (·.1)) i=loS (seqH V r e l t) i:=by
 unfold atL pnL
 rw [List.map_map,List.getD_eq_getElem?_getD,List.getElem?_map,List.getElem?_range hi]
 rfl
theorem pn_hi (V:RvI→GsI→HpI) (r:RvI) (e l t:Int) (i:Nat) (hi:i < 17):atL ((pnL V r e l t 17).map (·.2.1)) i=hiS (seqH V r e l t) i:=by
 unfold atL pnL
 rw [List.map_map,List.getD_eq_getElem?_getD,List.getElem?_map,List.getElem?_range hi]
 rfl
theorem cnZ_17 {c:List Int} (h:C17 c) (e:Int):C17 (cnZ e c):=by
 unfold cnZ
 cases e==0
 ·exact h
 ·show C17 (c.set 8 0)
  have hl:(c.set 8 0).length=17:=by rw [List.length_set]; exact h.len
  refine ⟨?_,hl⟩
  have h1:=h.w
  unfold cntW at h1 ⊢
  simp only [Bool.and_eq_true,Bool.not_eq_true',List.any_eq_false,List.length_set] at h1 ⊢
  refine ⟨h1.1,h1.2.1,fun i hi=>?_⟩
  have h3:=h1.2.2 i hi
  rw [List.getD_eq_getElem?_getD,List.getElem?_set]
  split
  ·split
   ·unfold cnO; simp
   ·unfold cnO; simp
  ·rw [List.getD_eq_getElem?_getD] at h3; exact h3
theorem rv1_17 {L:List (List Int)} (h:rv1 L=true) {c:List Int} (hc:c∈L):C17 c:=by
 obtain ⟨i,hi,rfl⟩:=List.mem_iff_getElem.1 hc
 have:=(rv1_in h).2.2 i hi
 rw [List.getD_eq_getElem?_getD,List.getElem?_eq_getElem hi] at this
 exact ⟨this.1,this.2⟩
theorem op_rv {r:RvI} (h:rvB r=true) (t:Int):rv1 (opL r t)=true:=by
 obtain ⟨h1,h2,_⟩:=rvB_in h
 unfold opL
 cases t==0
 ·exact h2
 ·exact h1
theorem sy_eq {V:RvI→GsI→HpI} {r:RvI} {e l t:Int} (hd:1≤r.1∧r.1≤1000) {c:List Int} (hc:C17 c) (hF:∀ i,i < 17→OkH (seqH V r e l t i)):syH r.1 e (pnL V r e l t 17) c=syF r.1 (cnZ e c) (seqH V r e l t):=by
 have hl:(pnL V r e l t 17).length=17:=pnL_len ..
 have v1:V17 ((pnL V r e l t 17).map (·.1)):=⟨by rw [List.length_map,hl],fun i hi=>by
  rw [pn_lo V r e l t i hi]
  have:=hF i hi
  exact ⟨this.lo,Int.le_trans this.le this.hi⟩⟩
 have v2:V17 ((pnL V r e l t 17).map (·.2.1)):=⟨by rw [List.length_map,hl],fun i hi=>by
  rw [pn_hi V r e l t i hi]
  have:=hF i hi
  exact ⟨Int.le_trans this.lo this.le,this.hi⟩⟩
 unfold syH syF
 rw [meH_17 (cnZ_17 hc e) v1 v2 hd,mqL_congr (pn_lo V r e l t),mqH_congr (pn_hi V r e l t)]
theorem st_eq {V:RvI→GsI→HpI} {r:RvI} {e l t:Int} (hr:rvB r=true) (hF:∀ i,i < 17→OkH (seqH V r e l t i)):stH V r e l t=(opL r t).map fun c=>syF r.1 (cnZ e c) (seqH V r e l t):=by
 unfold stH
 exact List.map_congr_left fun c hc=>sy_eq (rvB_in hr).2.2 (rv1_17 (op_rv hr t) hc) hF
theorem syF_ok {d:Int} (hd:1≤d∧d≤1000) {c:List Int} (hc:C17 c) {F:Nat→HpI} (hF:∀ i,i < 17→OkH (F i)):OkH (syF d c F):=by
 have a:∀ i,i < 17→0≤loS F i∧loS F i≤65536:=fun i hi=>⟨(hF i hi).lo,Int.le_trans (hF i hi).le (hF i hi).hi⟩
 have b:∀ i,i < 17→0≤hiS F i∧hiS F i≤65536:=fun i hi=>⟨Int.le_trans (hF i hi).lo (hF i hi).le,(hF i hi).hi⟩
 exact ⟨mqL_nn hc.bd hd a,mq_le hc.bd hd fun i hi=>(hF i hi).le,mqH_top hc.bd hd b⟩
/-! What is chosen. -/
abbrev H0:HpI:=(0,0,())
def chA (t:Int) (L:List HpI) (i:Nat):HpI:=((chN (opT t) L i).1,(chN (opT t) L i).2,())
theorem chO_at (t:Int) (L:List HpI):chO t L=chA t L (L.length - 1):=rfl
theorem opT_or (t:Int):(t=0∧opT t=mxI)∨(t≠0∧opT t=mnI):=by
 by_cases h:t=0
 ·subst h; exact .inl ⟨rfl,rfl⟩
 ·exact .inr ⟨h,by unfold opT; rw [show (t==0)=false from beq_eq_false_iff_ne.2 h]; rfl⟩
theorem chA_ok {t:Int} {L:List HpI}:∀ i,(∀ j,j≤i→OkH (L.getD j H0))→OkH (chA t L i)
 | 0,h=>h 0 (Nat.le_refl _)
 | i + 1,h=>by
   have h1:=chA_ok (t:=t) i fun j hj=>h j (by omega)
   have h2:=h (i + 1) (Nat.le_refl _)
   have e:chA t L (i + 1)=(opT t (chA t L i).1 (L.getD (i + 1) H0).1,opT t (chA t L i).2.1 (L.getD (i + 1) H0).2.1,()):=rfl
   rw [e]
   generalize chA t L i=a at h1
   generalize L.getD (i + 1) H0=b at h2
   obtain ⟨a1,a2,a3⟩:=h1
   obtain ⟨b1,b2,b3⟩:=h2
   rcases opT_or t with ⟨_,o⟩ | ⟨_,o⟩<;>rw [o]
   ·rcases mxI_or a.1 b.1 with ⟨_,e1⟩ | ⟨_,e1⟩<;>rcases mxI_or a.2.1 b.2.1 with ⟨_,e2⟩ | ⟨_,e2⟩<;>rw [e1,e2]<;>constructor<;>simp only []<;>omega
   ·rcases mnI_or a.1 b.1 with ⟨_,e1⟩ | ⟨_,e1⟩<;>rcases mnI_or a.2.1 b.2.1 with ⟨_,e2⟩ | ⟨_,e2⟩<;>rw [e1,e2]<;>constructor<;>simp only []<;>omega
theorem chO_ok {t:Int} {L:List HpI} (h0:0 < L.length) (h:∀ x∈L,OkH x):OkH (chO t L):=by
 rw [chO_at]
 refine chA_ok _ fun j hj=>?_
 have hl:j < L.length:=by omega
 rw [List.getD_eq_getElem?_getD,List.getElem?_eq_getElem hl]
 exact h _ (List.getElem_mem hl)
/-! Hopes. -/
theorem su_ok (b:Bool):OkH (suV b,suV b,()):=by cases b<;>constructor<;>decide
theorem op_ne {r:RvI} (hr:rvB r=true) (t:Int):0 < (opL r t).length:=by
 have:=(rv1_in (op_rv hr t)).1; omega
theorem st_ok {V:RvI→GsI→HpI} {r:RvI} {e l t:Int} (hr:rvB r=true) (hF:∀ i,i < 17→OkH (seqH V r e l t i)):∀ x∈stH V r e l t,OkH x:=by
 rw [st_eq hr hF]
 intro x hx
 obtain ⟨c,hc,rfl⟩:=List.mem_map.1 hx
 exact syF_ok (rvB_in hr).2.2 (cnZ_17 (rv1_17 (op_rv hr t) hc) e) hF
theorem st_len (V:RvI→GsI→HpI) (r:RvI) (e l t:Int):(stH V r e l t).length=(opL r t).length:=List.length_map ..
theorem hv_ok {r:RvI} (hr:rvB r=true):∀ (n:Nat) (e l t:Int),e=(n:Int)→stB (e,l,t,())=true→OkH (hv r (e,l,t,()))
 | n,e,l,t,he,hs=>by
   have hF:∀ i,i < 17→OkH (seqH hv r e l t i):=fun i hi=>by
    unfold seqH hpO
    by_cases h0:e > 0
    ·rw [decide_eq_true h0,cond_true]
     match n,he with
     | 0,he=>omega
     | n + 1,he=>
       have hb:=(stB_in hs).1
       refine hv_ok hr n _ _ _ ?_ (nx_st hs h0)
       rw [nx_e h0 hb.2]; omega
    ·rw [decide_eq_false h0,cond_false]
     exact su_ok _
   have hb:=(stB_in hs).1
   rw [hv_eq hb.1 hb.2]
   cases e==0&&l != 0
   ·exact chO_ok (by rw [st_len]; exact op_ne hr t) (st_ok hr hF)
   ·exact su_ok _
theorem seq_ok {r:RvI} (hr:rvB r=true) {e l t:Int} (hs:stB (e,l,t,())=true) (i:Nat):OkH (seqH hv r e l t i):=by
 unfold seqH hpO
 by_cases h0:e > 0
 ·rw [decide_eq_true h0,cond_true]
  have h1:=nx_st (p:=(i:Int) - 8) hs h0
  exact hv_ok hr (nxE e).toNat _ _ _ (by have:=(stB_in h1).1.1; exact (Int.toNat_of_nonneg this).symm) h1
 ·rw [decide_eq_false h0,cond_false]
  exact su_ok _
/-! What a style comes to, and the styles. -/
def fcD (dn:Bool) (s n:Int):Int:=bif dn then s / n else -((-s) / n)
def bxY (dn:Bool) (c:List Int) (F:Nat→Int):Int:=fcD dn (kdoN (atL c) F 17) (smN (atL c) 17)
def bxF (dn:Bool) (r:RvI):Nat→Int→Int→Int
 | 0,l,t=>bif l != 0 then suV (decide (l > 0)) else foN (opT t) (fun j=>bxY dn (cnZ 0 ((opL r t).getD j [])) fun i=>suV (suB t ((i:Int) - 8))) ((opL r t).length - 1)
 | n + 1,l,t=>foN (opT t) (fun j=>bxY dn ((opL r t).getD j []) fun i=>bxF dn r n (nxL l t ((i:Int) - 8)) (nxT t ((i:Int) - 8))) ((opL r t).length - 1)
def bxV (dn:Bool) (r:RvI) (s:GsI):Int:=bxF dn r s.1.toNat s.2.1 s.2.2.1
def sqB (dn:Bool) (r:RvI) (e l t:Int) (i:Nat):Int:=bif decide (e > 0) then bxV dn r (nxG e l t ((i:Int) - 8)) else suV (suB t ((i:Int) - 8))
def bxW (dn:Bool) (r:RvI) (e l t:Int) (j:Nat):Int:=bxY dn (cnZ e ((opL r t).getD j [])) (sqB dn r e l t)
theorem bxV_eq (dn:Bool) (r:RvI) {e l t:Int} (h0:0≤e) (h1:e≤12):bxV dn r (e,l,t,())=bif e==0&&l != 0 then suV (decide (l > 0)) else foN (opT t) (bxW dn r e l t) ((opL r t).length - 1):=by
 obtain ⟨n,rfl⟩:∃ n:Nat,e=(n:Int):=⟨e.toNat,(Int.toNat_of_nonneg h0).symm⟩
 cases n with
 | zero=>rfl
 | succ n=>
   have hz:(((n + 1:Nat):Int)==0)=false:=beq_eq_false_iff_ne.2 (by omega)
   rw [hz,Bool.false_and,cond_false]
   show foN (opT t) (fun j=>bxY dn ((opL r t).getD j []) fun i=>bxF dn r n (nxL l t ((i:Int) - 8)) (nxT t ((i:Int) - 8))) ((opL r t).length - 1)=_
   refine fo_congr _ fun j _=>?_
   unfold bxW cnZ
   rw [hz,cond_false]
   congr 1
   funext i
   unfold sqB
   rw [decide_eq_true (show ((n + 1:Nat):Int) > 0 by omega),cond_true]
   show _=bxF dn r (nxE ((n + 1:Nat):Int)).toNat _ _
   rw [nx_e (by omega) h1,show (((n + 1:Nat):Int) - 1)=(n:Int) by omega,Int.toNat_natCast]
   rfl
def bwGdN (r:RvI):Nat→Int→Int→Prop
 | 0,l,t=>l=0→∀ j,j < (opL r t).length→smN (atL (cnZ 0 ((opL r t).getD j []))) 17≠0
 | n + 1,l,t=>∀ i:Nat,i < 17→bwGdN r n (nxL l t ((i:Int) - 8)) (nxT t ((i:Int) - 8))
def bwGd (r:RvI) (s:GsI):Prop:=bwGdN r s.1.toNat s.2.1 s.2.2.1
theorem gdN_nx (r:RvI) {e l t:Int} (h0:0 < e) (h1:e≤12):bwGd r (e,l,t,())↔∀ i:Nat,i < 17→bwGd r (nxG e l t ((i:Int) - 8)):=by
 obtain ⟨n,rfl⟩:∃ n:Nat,e=((n + 1:Nat):Int):=⟨e.toNat - 1,by omega⟩
 have hn:(nxE ((n + 1:Nat):Int)).toNat=n:=by
  rw [nx_e (by omega) h1,show (((n + 1:Nat):Int) - 1)=(n:Int) by omega,Int.toNat_natCast]
 have hq:∀ i:Nat,bwGd r (nxG ((n + 1:Nat):Int) l t ((i:Int) - 8))=bwGdN r n (nxL l t ((i:Int) - 8)) (nxT t ((i:Int) - 8)):=fun i=>by
  show bwGdN r (nxE ((n + 1:Nat):Int)).toNat _ _=_
  rw [hn]; rfl
 constructor
 ·intro h i hi
  rw [hq i]; exact h i hi
 ·intro h i hi
  rw [← hq i]; exact h i hi
/-! The map holds what is so. -/
def BwIv (dn:Bool) (r:RvI) (M:MqI):Prop:=∀ p∈M,p.2=bxV dn r p.1∧bwGd r p.1
theorem bi_find {dn:Bool} {r:RvI} {M:MqI} (h:BwIv dn r M) {s:GsI} {v:Int} (hf:mpFind GsSh FxSh s M=some v):v=bxV dn r s∧bwGd r s:=by
 induction M with
 | nil=>cases hf
 | cons p M ih=>
   change (bif Sh.eqb GsSh s p.1 then some p.2 else mpFind GsSh FxSh s M)=some v at hf
   cases he:Sh.eqb GsSh s p.1
   ·rw [he] at hf
    exact ih (fun x hx=>h x (List.mem_cons_of_mem _ hx)) hf
   ·rw [he] at hf
    cases (show some p.2=some v from hf)
    have e:=gs_eq he
    subst e
    exact h p (List.mem_cons_self ..)
theorem bi_put {dn:Bool} {r:RvI} {M:MqI} (h:BwIv dn r M) {s:GsI} {v:Int} (hv:v=bxV dn r s∧bwGd r s):BwIv dn r (mpPut GsSh FxSh s v M):=by
 induction M with
 | nil=>
   intro p hp
   change p∈[(s,v)] at hp
   cases List.mem_singleton.1 hp
   exact hv
 | cons p M ih=>
   intro x hx
   change x∈(bif Sh.eqb GsSh s p.1 then (s,v) :: M else p :: mpPut GsSh FxSh s v M) at hx
   cases he:Sh.eqb GsSh s p.1
   ·rw [he,cond_false] at hx
    rcases List.mem_cons.1 hx with e | hx
    ·subst e; exact h _ (List.mem_cons_self ..)
    ·exact ih (fun y hy=>h y (List.mem_cons_of_mem _ hy)) x hx
   ·rw [he,cond_true] at hx
    rcases List.mem_cons.1 hx with e | hx
    ·subst e; exact hv
    ·exact h x (List.mem_cons_of_mem _ hx)
/-! Sums, within bounds. -/
theorem bdo_in {c v:Nat→Int}:∀ n,(∀ i,i < n→(0≤c i∧c i≤2000000)∧0≤v i∧v i≤65536)→(0≤kdoN c v n∧kdoN c v n≤65536 * smN c n)∧0≤smN c n∧smN c n≤2000000 * (n:Int)
 | 0,_=>⟨⟨Int.le_refl _,Int.le_refl _⟩,Int.le_refl _,Int.le_refl _⟩
 | n + 1,h=>by
   have h1:=bdo_in n fun i hi=>h i (by omega)
   obtain ⟨h2,h3⟩:=h n (by omega)
   have h4:=Int.mul_nonneg h2.1 h3.1
   have h5:=Int.mul_le_mul_of_nonneg_left h3.2 h2.1
   rw [kdoN,smN]
   omega
theorem ceil_md {s n:Int} (hn:0 < n):-((-s) / n)=if s % n > 0 then s / n + 1 else s / n:=by
 have m0:=Int.emod_nonneg s (show n≠0 by omega)
 have m1:=Int.emod_lt_of_pos s hn
 have em:=Int.emod_add_mul_ediv s n
 by_cases h:s % n > 0
 ·rw [if_pos h]
  have:=((Int.ediv_emod_unique (a:=-s) (r:=n - s % n) (q:=-(s / n + 1)) hn).2 ⟨by rw [Int.mul_neg,Int.mul_add]; omega,by omega,by omega⟩).1
  omega
 ·rw [if_neg h]
  have:=((Int.ediv_emod_unique (a:=-s) (r:=0) (q:=-(s / n)) hn).2 ⟨by rw [Int.mul_neg]; omega,by omega,by omega⟩).1
  omega
theorem fcD_in (dn:Bool) {s n:Int} (h0:0≤s) (h1:s≤65536 * n) (hn:0≤n):0≤fcD dn s n∧fcD dn s n≤65536:=by
 by_cases hz:n=0
 ·subst hz
  unfold fcD
  rw [Int.ediv_zero,Int.ediv_zero]
  cases dn<;>simp
 ·have q0:=Int.ediv_nonneg h0 hn
  have q1:-65536≤(-s) / n:=(Int.le_ediv_iff_mul_le (show 0 < n by omega)).2 (by omega)
  have q2:=floor_ceil (X:=s) (show 0 < n by omega)
  unfold fcD
  cases dn
  ·rw [cond_false]; omega
  ·rw [cond_true]; omega
theorem bwVal_eq (dn:Bool) {s n:Int} (h0:0≤s) (h1:s≤65536 * n) (hn:0 < n):bwVal dn s n=fcD dn s n:=by
 have q0:=Int.ediv_nonneg h0 (show 0≤n by omega)
 have b:=fcD_in true h0 h1 (show 0≤n by omega)
 have b':=fcD_in false h0 h1 (show 0≤n by omega)
 unfold fcD at b b'
 rw [cond_true] at b
 rw [cond_false] at b'
 unfold bwVal fcD
 rw [Int.tdiv_eq_ediv_of_nonneg h0,Int.tmod_eq_emod_of_nonneg h0,i64_in (s / n) (by omega)]
 cases dn
 ·rw [cond_false,Bool.not_false,cond_true,ceil_md hn]
  rw [ceil_md hn] at b'
  by_cases h:s % n > 0
  ·rw [if_pos h] at b' ⊢
   rw [decide_eq_true h,cond_true,i64_in _ (by omega)]
  ·rw [if_neg h,decide_eq_false h,cond_false]
 ·rfl
def BwC (r:RvI):Prop:=∀ (t:Int) (j i:Nat),0≤atL ((opL r t).getD j []) i∧atL ((opL r t).getD j []) i≤2000000
theorem atL_cnZ (e:Int) (c:List Int) (i:Nat):atL (cnZ e c) i=if e=0∧i=8 then 0 else atL c i:=by
 unfold cnZ
 by_cases he:e=0
 ·subst he
  show atL (c.set 8 0) i=_
  unfold atL
  rw [List.getD_eq_getElem?_getD,List.getElem?_set]
  by_cases hi:i=8
  ·subst hi
   rw [if_pos rfl,show (if (0:Int)=0∧8=8 then (0:Int) else c.getD 8 0)=0 from if_pos ⟨rfl,rfl⟩]
   split<;>rfl
  ·rw [if_neg (fun h=>hi h.symm),if_neg (fun h=>hi h.2),List.getD_eq_getElem?_getD]
 ·rw [show (e==0)=false from beq_eq_false_iff_ne.2 he,cond_false,if_neg (fun h=>he h.1)]
theorem cnZ_in {r:RvI} (hc:BwC r) (e t:Int) (j i:Nat):0≤atL (cnZ e ((opL r t).getD j [])) i∧atL (cnZ e ((opL r t).getD j [])) i≤2000000:=by
 rw [atL_cnZ]
 split
 ·omega
 ·exact hc t j i
theorem bxY_in (dn:Bool) {c:List Int} {F:Nat→Int} (hc:∀ i,0≤atL c i∧atL c i≤2000000) (hF:∀ i,i < 17→0≤F i∧F i≤65536):0≤bxY dn c F∧bxY dn c F≤65536:=by
 have h:=bdo_in (c:=atL c) (v:=F) 17 fun i hi=>⟨hc i,hF i hi⟩
 exact fcD_in dn h.1.1 h.1.2 h.2.1
theorem opT_mm (t:Int):opT t=mxI∨opT t=mnI:=by
 rcases opT_or t with ⟨_,o⟩ | ⟨_,o⟩
 ·exact .inl o
 ·exact .inr o
theorem suV_in (b:Bool):0≤suV b∧suV b≤65536:=by cases b<;>decide
theorem bxF_in (dn:Bool) {r:RvI} (hc:BwC r):∀ (n:Nat) (l t:Int),0≤bxF dn r n l t∧bxF dn r n l t≤65536
 | 0,l,t=>by
   rw [bxF]
   cases l != 0
   ·exact kmx_in (opT_mm t) _ fun j _=>bxY_in dn (cnZ_in hc 0 t j) fun i _=>suV_in _
   ·exact suV_in _
 | n + 1,l,t=>by
   rw [bxF]
   exact kmx_in (opT_mm t) _ fun j _=>bxY_in dn (hc t j) fun i _=>bxF_in dn hc n _ _
theorem sqB_in (dn:Bool) {r:RvI} (hc:BwC r) (e l t:Int) (i:Nat):0≤sqB dn r e l t i∧sqB dn r e l t i≤65536:=by
 unfold sqB
 cases decide (e > 0)
 ·exact suV_in _
 ·exact bxF_in dn hc _ _ _
section
variable (V:RvI→Bool→GsI→MqI→Int) (O:RvI→Bool→GsI→MqI→Bool) (W:RvI→Bool→GsI→MqI→MqI) (r:RvI) (dn:Bool) (e l t:Int)
theorem bwStp_up {c:List Int} {k:Nat} {x x':BwS} (hx:x.2.2.1=true) (h:bwStp V O W r dn e l t c k x=.inl x'):x'.2.2.1=true:=by
 unfold bwStp at h
 rw [hx] at h
 cases h1:(e==0&&bwPt k==0)
 ·rw [h1,cond_false] at h
  cases h2:decide (e > 0)
  ·rw [h2,cond_false] at h
   cases h; rfl
  ·rw [h2,cond_true,cond_true] at h
   cases h
 ·rw [h1,cond_true] at h
  cases h; exact hx
theorem bwFo_up {c:List Int}:∀ (n k:Nat) {x y:BwS},x.2.2.1=true→bwFo V O W r dn e l t c n k x=.inl y→y.2.2.1=true
 | 0,k,x,y,hx,h=>by
   rw [bwFo] at h
   cases h; exact hx
 | n + 1,k,x,y,hx,h=>by
   rw [bwFo] at h
   cases h1:bwStp V O W r dn e l t c k x with
   | inr z=>rw [h1] at h; cases h
   | inl x'=>
     rw [h1] at h
     exact bwFo_up n (k + 1) (bwStp_up V O W r dn e l t hx h1) h
theorem bwSty_up {q:Int→Int→Bool} {c:List Int} {x x':BwT} (hx:x.2.2.1=true) (h:bwSty V O W r dn e l t q c x=.inl x'):x'.2.2.1=true:=by
 unfold bwSty at h
 cases h1:bwFo V O W r dn e l t c 17 0 (0,0,x.2.2.1,x.2.2.2) with
 | inr z=>rw [h1] at h; cases h
 | inl y=>
   rw [h1] at h
   have hy:=bwFo_up V O W r dn e l t 17 0 (x:=(0,0,x.2.2.1,x.2.2.2)) hx h1
   simp only at h
   cases h2:y.2.1==0
   ·rw [h2,cond_false] at h
    cases h3:!x.2.1 || q (bwVal dn y.1 y.2.1) x.1
    ·rw [h3,cond_false] at h; cases h; exact hy
    ·rw [h3,cond_true] at h; cases h; exact hy
   ·rw [h2,cond_true] at h; cases h
theorem bwSo_up {q:Int→Int→Bool}:∀ (L:List (List Int)) {x y:BwT},x.2.2.1=true→bwSo V O W r dn e l t q L x=.inl y→y.2.2.1=true
 | [],x,y,hx,h=>by
   rw [bwSo] at h
   cases h; exact hx
 | c :: L,x,y,hx,h=>by
   rw [bwSo] at h
   cases h1:bwSty V O W r dn e l t q c x with
   | inr z=>rw [h1] at h; cases h
   | inl x'=>
     rw [h1] at h
     exact bwSo_up L (bwSty_up V O W r dn e l t hx h1) h
structure BwSub (Iv:MqI→Prop) (F:Nat→Int) (G:Nat→Prop):Prop where
 sub:0 < e→∀ k,k < 17→∀ M,Iv M→O r dn (nnS e l t (bwPt k)) M=false→V r dn (nnS e l t (bwPt k)) M=F k∧Iv (W r dn (nnS e l t (bwPt k)) M)∧G k
 fin:e=0→∀ k,k < 17→k≠8→(bif decide (bwPt k > 0)==(t==0) then 65536 else 0)=F k
 gz:e=0→∀ k,k < 17→G k
 bd:∀ i,i < 17→0≤F i∧F i≤65536
variable {V O W r dn e l t}
variable {Iv:MqI→Prop} {F:Nat→Int} {G:Nat→Prop}
structure BwAt (Iv:MqI→Prop) (F:Nat→Int) (G:Nat→Prop) (c:List Int) (k:Nat) (x:BwS):Prop where
 s:x.1=kdoN (atL c) F k
 n:x.2.1=smN (atL c) k
 iv:Iv x.2.2.2
 g:∀ i,i < k→G i
theorem bwStp_ok (h:BwSub V O W r dn e l t Iv F G) (he:0≤e) {c:List Int} (hc:∀ i,0≤atL c i∧atL c i≤2000000) {k:Nat} (hk:k < 17) {x x':BwS} (hx:x.2.2.1=false) (ha:BwAt Iv F G (cnZ e c) k x) (hs:bwStp V O W r dn e l t c k x=.inl x'):x'.2.2.1=true∨(x'.2.2.1=false∧BwAt Iv F G (cnZ e c) (k + 1) x'):=by
 have hcz:∀ i,0≤atL (cnZ e c) i∧atL (cnZ e c) i≤2000000:=fun i=>by
  rw [atL_cnZ]
  split
  ·omega
  ·exact hc i
 have b1:=bdo_in (c:=atL (cnZ e c)) (v:=F) k fun i hi=>⟨hcz i,h.bd i (by omega)⟩
 have b2:=bdo_in (c:=atL (cnZ e c)) (v:=F) (k + 1) fun i hi=>⟨hcz i,h.bd i (by omega)⟩
 have hp:=bwPt_in hk
 have g1:∀ {P:Prop},(P→G k)→P→∀ i,i < k + 1→G i:=fun hP p i hi=>by
  by_cases hik:i=k
  ·subst hik; exact hP p
  ·exact ha.g i (by omega)
 have m0:=Int.mul_nonneg (hcz k).1 (h.bd k hk).1
 have m1:=Int.mul_le_mul_of_nonneg_left (h.bd k hk).2 (hcz k).1
 rw [kdoN,smN] at b2
 have hw:atL (cnZ e c) k=c.getD k 0→∀ v,v=F k→IntKind.i64.wrap (x.1 + IntKind.i64.wrap (v * c.getD k 0))=kdoN (atL (cnZ e c)) F (k + 1)∧IntKind.i64.wrap (x.2.1 + c.getD k 0)=smN (atL (cnZ e c)) (k + 1):=fun hz v hv=>by
  rw [hv,ha.s,ha.n,← hz,Int.mul_comm (F k),kdoN,smN,i64_in (atL (cnZ e c) k * F k) (by have:=(hcz k).2; omega),i64_in _ (by omega),i64_in _ (by omega)]
  exact ⟨rfl,rfl⟩
 unfold bwStp at hs
 rw [hx] at hs
 by_cases h0:e=0
 ·by_cases h8:k=8
  ·have e1:(e==0&&bwPt k==0)=true:=by
    rw [hp,h0,h8]; rfl
   rw [e1,cond_true] at hs
   cases hs
   refine .inr ⟨hx,?_,?_,ha.iv,g1 (fun _=>h.gz h0 k hk) trivial⟩
   ·rw [kdoN,atL_cnZ,if_pos ⟨h0,h8⟩,Int.zero_mul,Int.add_zero]; exact ha.s
   ·rw [smN,atL_cnZ,if_pos ⟨h0,h8⟩,Int.add_zero]; exact ha.n
  ·have e1:(e==0&&bwPt k==0)=false:=by
    rw [hp,show (((k:Int) - 8)==0)=false from beq_eq_false_iff_ne.2 (by omega),Bool.and_false]
   rw [e1,cond_false,decide_eq_false (show ¬ e > 0 by omega),cond_false] at hs
   cases hs
   obtain ⟨w1,w2⟩:=hw (by rw [atL_cnZ,if_neg (fun q=>h8 q.2)]; rfl) _ (h.fin h0 k hk h8)
   exact .inr ⟨rfl,w1,w2,ha.iv,g1 (fun _=>h.gz h0 k hk) trivial⟩
 ·have e1:(e==0&&bwPt k==0)=false:=by
   rw [show (e==0)=false from beq_eq_false_iff_ne.2 h0,Bool.false_and]
  rw [e1,cond_false,decide_eq_true (show e > 0 by omega),cond_true,cond_false] at hs
  cases hs
  cases ho:O r dn (nnS e l t (bwPt k)) x.2.2.2
  ·obtain ⟨v1,v2,v3⟩:=h.sub (by omega) k hk _ ha.iv ho
   obtain ⟨w1,w2⟩:=hw (by rw [atL_cnZ,if_neg (fun q=>h0 q.1)]; rfl) _ v1
   exact .inr ⟨rfl,w1,w2,v2,g1 (fun _=>v3) trivial⟩
  ·exact .inl rfl
theorem bwFo_ok (h:BwSub V O W r dn e l t Iv F G) (he:0≤e) {c:List Int} (hc:∀ i,0≤atL c i∧atL c i≤2000000):∀ (n k:Nat) {x y:BwS},k + n=17→x.2.2.1=false→BwAt Iv F G (cnZ e c) k x→bwFo V O W r dn e l t c n k x=.inl y→y.2.2.1=false→BwAt Iv F G (cnZ e c) 17 y
 | 0,k,x,y,hk,hx,ha,hs,hy=>by
   rw [bwFo] at hs
   cases hs
   have:k=17:=by omega
   subst this
   exact ha
 | n + 1,k,x,y,hk,hx,ha,hs,hy=>by
   rw [bwFo] at hs
   cases h1:bwStp V O W r dn e l t c k x with
   | inr z=>rw [h1] at hs; cases hs
   | inl x'=>
     rw [h1] at hs
     rcases bwStp_ok h he hc (by omega) hx ha h1 with h2 | ⟨h2,h3⟩
     ·have:=bwFo_up V O W r dn e l t n (k + 1) h2 hs
      rw [this] at hy; cases hy
     ·exact bwFo_ok h he hc n (k + 1) (by omega) h2 h3 hs hy
theorem bwSty_ok (h:BwSub V O W r dn e l t Iv F G) (he:0≤e) {c:List Int} (hc:∀ i,0≤atL c i∧atL c i≤2000000) {q:Int→Int→Bool} {x x':BwT} (hx:x.2.2.1=false) (hi:Iv x.2.2.2) (hs:bwSty V O W r dn e l t q c x=.inl x') (hy:x'.2.2.1=false):x'.2.1=true∧x'.1=(bif !x.2.1 || q (bxY dn (cnZ e c) F) x.1 then bxY dn (cnZ e c) F else x.1)∧Iv x'.2.2.2∧smN (atL (cnZ e c)) 17≠0∧∀ i,i < 17→G i:=by
 have hcz:∀ i,0≤atL (cnZ e c) i∧atL (cnZ e c) i≤2000000:=fun i=>by
  rw [atL_cnZ]
  split
  ·omega
  ·exact hc i
 have b:=bdo_in (c:=atL (cnZ e c)) (v:=F) 17 fun i hi=>⟨hcz i,h.bd i hi⟩
 unfold bwSty at hs
 cases h1:bwFo V O W r dn e l t c 17 0 (0,0,x.2.2.1,x.2.2.2) with
 | inr z=>rw [h1] at hs; cases hs
 | inl y=>
   rw [h1] at hs
   simp only at hs
   cases h2:y.2.1==0
   ·rw [h2,cond_false] at hs
    have ho:y.2.2.1=false:=by
     cases h3:!x.2.1 || q (bwVal dn y.1 y.2.1) x.1
     ·rw [h3,cond_false] at hs; cases hs; exact hy
     ·rw [h3,cond_true] at hs; cases hs; exact hy
    have ha:=bwFo_ok h he hc 17 0 (x:=(0,0,x.2.2.1,x.2.2.2)) rfl hx ⟨rfl,rfl,hi,fun i hi=>absurd hi (Nat.not_lt_zero i)⟩ h1 ho
    have hn:smN (atL (cnZ e c)) 17≠0:=by
     rw [← ha.n]; exact beq_eq_false_iff_ne.1 h2
    have hv:bwVal dn y.1 y.2.1=bxY dn (cnZ e c) F:=by
     rw [ha.s,ha.n]
     exact bwVal_eq dn b.1.1 b.1.2 (by omega)
    rw [hv] at hs
    cases h3:!x.2.1 || q (bxY dn (cnZ e c) F) x.1
    ·rw [h3,cond_false] at hs
     cases hs
     have hb:x.2.1=true:=by
      cases hb:x.2.1
      ·rw [hb] at h3; cases h3
      ·rfl
     exact ⟨hb,rfl,ha.iv,hn,ha.g⟩
    ·rw [h3,cond_true] at hs
     cases hs
     exact ⟨rfl,rfl,ha.iv,hn,ha.g⟩
   ·rw [h2,cond_true] at hs; cases hs
theorem bwQ_pick (t v b:Int):(bif bwQ t v b then v else b)=opT t b v:=by
 unfold bwQ opT
 cases t==0
 ·rw [cond_false,cond_false]
  rcases mnI_or b v with ⟨h,e⟩ | ⟨h,e⟩<;>rw [e]
  ·rw [decide_eq_true h,cond_true]
  ·rw [decide_eq_false (by omega),cond_false]
 ·rw [cond_true,cond_true]
  rcases mxI_or b v with ⟨h,e⟩ | ⟨h,e⟩<;>rw [e]
  ·rw [decide_eq_true (by omega),cond_true]
  ·rw [decide_eq_false (by omega),cond_false]
structure BwSt (Iv:MqI→Prop) (G:Nat→Prop) (t:Int) (w:Nat→Int) (nz:Nat→Prop) (i:Nat) (x:BwT):Prop where
 b:(i=0∧x.2.1=false)∨∃ j,i=j + 1∧x.2.1=true∧x.1=foN (opT t) w j∧∀ k,k < 17→G k
 iv:Iv x.2.2.2
 nz:∀ j,j < i→nz j
theorem bwSo_ok (h:BwSub V O W r dn e l t Iv F G) (he:0≤e) {c:Nat→List Int} (hc:∀ j i,0≤atL (c j) i∧atL (c j) i≤2000000):∀ (L:List (List Int)) (i:Nat) {x y:BwT},(∀ j,j < L.length→L.getD j []=c (i + j))→x.2.2.1=false→BwSt Iv G t (fun j=>bxY dn (cnZ e (c j)) F) (fun j=>smN (atL (cnZ e (c j))) 17≠0) i x→bwSo V O W r dn e l t (bwQ t) L x=.inl y→y.2.2.1=false→BwSt Iv G t (fun j=>bxY dn (cnZ e (c j)) F) (fun j=>smN (atL (cnZ e (c j))) 17≠0) (i + L.length) y
 | [],i,x,y,hL,hx,ha,hs,hy=>by
   rw [bwSo] at hs
   cases hs
   exact ha
 | a :: L,i,x,y,hL,hx,ha,hs,hy=>by
   have e0:a=c i:=hL 0 (by simp)
   subst e0
   rw [bwSo] at hs
   cases h1:bwSty V O W r dn e l t (bwQ t) (c i) x with
   | inr z=>rw [h1] at hs; cases hs
   | inl x'=>
     rw [h1] at hs
     cases ho:x'.2.2.1
     ·obtain ⟨s1,s2,s3,s4,s5⟩:=bwSty_ok h he (hc i) hx ha.iv h1 ho
      have hn:BwSt Iv G t (fun j=>bxY dn (cnZ e (c j)) F) (fun j=>smN (atL (cnZ e (c j))) 17≠0) (i + 1) x':=by
       refine ⟨.inr ⟨i,rfl,s1,?_,s5⟩,s3,fun j hj=>?_⟩
       ·rcases ha.b with ⟨h0,h2⟩ | ⟨j,h0,h2,h3,_⟩
        ·subst h0
         rw [s2,h2]; rfl
        ·subst h0
         rw [s2,h2,h3,Bool.not_true,Bool.false_or,bwQ_pick]; rfl
       ·by_cases hji:j=i
        ·subst hji; exact s4
        ·exact ha.nz j (by omega)
      have:=bwSo_ok h he hc L (i + 1) (fun j hj=>by
       have:=hL (j + 1) (by simp; omega)
       rw [show i + 1 + j=i + (j + 1) by omega,← this]; rfl) ho hn hs hy
      rw [show i + (c i :: L).length=i + 1 + L.length by simp; omega]
      exact this
     ·have:=bwSo_up V O W r dn e l t L ho hs
      rw [this] at hy; cases hy
end
section
variable (V:RvI→Bool→GsI→MqI→Int) (O:RvI→Bool→GsI→MqI→Bool) (W:RvI→Bool→GsI→MqI→MqI) (r:RvI) (dn:Bool) {e l t:Int} {M:MqI}
theorem bwRes_end (h:(e==0&&l != 0)=true):bwRes V O W r dn e l t M=(suV (decide (l > 0)),false,M):=by
 unfold bwRes
 rw [h,cond_true]
 cases decide (l > 0)<;>rfl
theorem bwRes_map (h:(e==0&&l != 0)=false) {v:Int} (hf:mpFind GsSh FxSh (e,l,t,()) M=some v):bwRes V O W r dn e l t M=(v,false,M):=by
 unfold bwRes
 rw [h,cond_false,hf]
 rfl
theorem bwRes_new (h:(e==0&&l != 0)=false) (hf:mpFind GsSh FxSh (e,l,t,()) M=none):bwRes V O W r dn e l t M=match bwSo V O W r dn e l t (bwQ t) (bwL r t) (0,false,false,M) with
 | .inr y=>(0,true,y.1)
 | .inl x=>(x.1,x.2.2.1,mpPut GsSh FxSh (e,l,t,()) x.1 x.2.2.2):=by
 unfold bwRes
 rw [h,cond_false,hf]
 rfl
end
/-! Level by level. -/
theorem bwN_ok {r:RvI} {dn:Bool} (hc:BwC r) (hl:∀ t,0 < (opL r t).length):∀ (k:Nat) (s:GsI) (M:MqI),stB s=true→s.1 < (k:Int)→BwIv dn r M→(bwN k r dn s M).2.1=false→(bwN k r dn s M).1=bxV dn r s∧BwIv dn r (bwN k r dn s M).2.2∧bwGd r s
 | 0,s,M,hs,hk,_,_=>by
   have:=(stB_in hs).1.1
   exact absurd hk (by omega)
 | k + 1,(e,l,t,()),M,hs,hk,hM,ho=>by
   have he':e < ((k + 1:Nat):Int):=hk
   have h0:0≤e:=(stB_in hs).1.1
   have h12:e≤12:=(stB_in hs).1.2
   have ht':t=0∨t=1:=(stB_in hs).2.2
   have hsub:BwSub (fun r dn s M=>(bwN k r dn s M).1) (fun r dn s M=>(bwN k r dn s M).2.1) (fun r dn s M=>(bwN k r dn s M).2.2) r dn e l t (BwIv dn r) (sqB dn r e l t) (fun i=>0 < e→bwGd r (nxG e l t ((i:Int) - 8))):=by
    refine ⟨fun hp j hj M' hM' ho'=>?_,fun hz j hj h8=>?_,fun hz j hj hp=>absurd hp (by omega),fun i hi=>sqB_in dn hc e l t i⟩
    ·have e2:=(nnS_ok (l:=l) (t:=t) hs hp hj).2
     rw [bwPt_in hj] at e2
     simp only [bwPt_in hj,e2] at ho' ⊢
     have h4:=nx_e hp h12
     obtain ⟨v1,v2,v3⟩:=bwN_ok hc hl k (nxG e l t ((j:Int) - 8)) M' (nx_st hs hp) (by show nxE e < _; omega) hM' ho'
     refine ⟨?_,v2,fun _=>v3⟩
     rw [v1]
     unfold sqB
     rw [decide_eq_true (show e > 0 by omega),cond_true]
    ·rw [bwPt_in hj]
     unfold sqB suB
     rw [decide_eq_false (show ¬ e > 0 by omega),cond_false]
     rcases ht' with rfl | rfl
     ·by_cases hp:(j:Int) - 8 > 0
      ·rw [decide_eq_true hp]; rfl
      ·rw [decide_eq_false hp]; rw [show ((0:Int)==1)=false from rfl,Bool.and_false]; rfl
     ·by_cases hp:(j:Int) - 8 > 0
      ·rw [decide_eq_true hp,decide_eq_false (show ¬ (j:Int) - 8 < 0 by omega)]; rfl
      ·rw [decide_eq_false hp,decide_eq_true (show (j:Int) - 8 < 0 by omega)]; rfl
   have eN:bwN (k + 1) r dn (e,l,t,()) M=bwRes (fun r dn s M=>(bwN k r dn s M).1) (fun r dn s M=>(bwN k r dn s M).2.1) (fun r dn s M=>(bwN k r dn s M).2.2) r dn e l t M:=rfl
   rw [eN] at ho ⊢
   by_cases h1:(e==0&&l != 0)=true
   ·rw [bwRes_end _ _ _ r dn h1] at ho ⊢
    have hz:e=0∧l≠0:=by
     simp only [Bool.and_eq_true,beq_iff_eq,bne_iff_ne] at h1
     exact h1
    have hg:bwGd r (e,l,t,()):=by
     obtain ⟨rfl,hl0⟩:=hz
     exact fun q=>absurd q hl0
    refine ⟨?_,hM,hg⟩
    rw [bxV_eq dn r h0 h12,h1,cond_true]
   ·have h1:(e==0&&l != 0)=false:=by
     cases h:(e==0&&l != 0)
     ·rfl
     ·exact absurd h h1
    cases h2:mpFind GsSh FxSh (e,l,t,()) M with
    | some v=>
      rw [bwRes_map _ _ _ r dn h1 h2] at ho ⊢
      have hf:=bi_find hM h2
      exact ⟨hf.1,hM,hf.2⟩
    | none=>
      rw [bwRes_new _ _ _ r dn h1 h2] at ho ⊢
      cases h3:bwSo (fun r dn s M=>(bwN k r dn s M).1) (fun r dn s M=>(bwN k r dn s M).2.1) (fun r dn s M=>(bwN k r dn s M).2.2) r dn e l t (bwQ t) (bwL r t) (0,false,false,M) with
      | inr z=>rw [h3] at ho; cases ho
      | inl y=>
        rw [h3] at ho
        have ho:y.2.2.1=false:=ho
        have hy:=bwSo_ok hsub h0 (c:=fun j=>(opL r t).getD j []) (hc t) (bwL r t) 0 (x:=(0,false,false,M)) (fun j _=>by rw [Nat.zero_add]; rfl) rfl ⟨.inl ⟨rfl,rfl⟩,hM,fun j hj=>absurd hj (Nat.not_lt_zero j)⟩ h3 ho
        have hlen:(bwL r t).length=(opL r t).length:=rfl
        have hpos:=hl t
        have hv:y.1=bxV dn r (e,l,t,())∧bwGd r (e,l,t,()):=by
         rcases hy.b with ⟨b0,_⟩ | ⟨j,b0,_,b2,b3⟩
         ·omega
         ·constructor
          ·rw [bxV_eq dn r h0 h12,h1,cond_false,b2,show (opL r t).length - 1=j by omega]; rfl
          ·by_cases hp:0 < e
           ·exact (gdN_nx r hp h12).2 fun i hi=>b3 i hi hp
           ·have hz:e=0:=by
             have:0≤e:=h0
             omega
            subst hz
            intro _ j (hj:j < (opL r t).length)
            exact hy.nz j (by omega)
        exact ⟨hv.1,bi_put hy.iv hv,hv.2⟩
/-! Sums. -/
theorem kdo_add {a c x v:Nat→Int}:∀ n,(∀ i,i < n→a i=c i + x i)→kdoN a v n=kdoN c v n + kdoN x v n
 | 0,_=>rfl
 | n + 1,h=>by
   rw [kdoN,kdoN,kdoN,kdo_add n fun i hi=>h i (by omega),h n (by omega),Int.add_mul]
   omega
theorem sm_add {a c x:Nat→Int}:∀ n,(∀ i,i < n→a i=c i + x i)→smN a n=smN c n + smN x n
 | 0,_=>rfl
 | n + 1,h=>by
   rw [smN,smN,smN,sm_add n fun i hi=>h i (by omega),h n (by omega)]
   omega
theorem kdo_lo {m:Int} {x v:Nat→Int}:∀ n,(∀ i,i < n→0≤x i∧m≤v i)→m * smN x n≤kdoN x v n
 | 0,_=>by rw [smN,kdoN,Int.mul_zero]; exact Int.le_refl _
 | n + 1,h=>by
   have h1:=kdo_lo n fun i hi=>h i (by omega)
   have h2:=h n (by omega)
   have h3:=Int.mul_le_mul_of_nonneg_left h2.2 h2.1
   rw [smN,kdoN,Int.mul_add,Int.mul_comm m (x n)]
   omega
theorem kdo_hi {m:Int} {x v:Nat→Int}:∀ n,(∀ i,i < n→0≤x i∧v i≤m)→kdoN x v n≤m * smN x n
 | 0,_=>by rw [smN,kdoN,Int.mul_zero]; exact Int.le_refl _
 | n + 1,h=>by
   have h1:=kdo_hi n fun i hi=>h i (by omega)
   have h2:=h n (by omega)
   have h3:=Int.mul_le_mul_of_nonneg_left h2.2 h2.1
   rw [smN,kdoN,Int.mul_add,Int.mul_comm m (x n)]
   omega
theorem sm_nn {x:Nat→Int}:∀ n,(∀ i,i < n→0≤x i)→0≤smN x n
 | 0,_=>Int.le_refl _
 | n + 1,h=>by
   have h1:=sm_nn n fun i hi=>h i (by omega)
   have h2:=h n (by omega)
   rw [smN]; omega
theorem sm_le {x y:Nat→Int}:∀ n,(∀ i,i < n→x i≤y i)→smN x n≤smN y n
 | 0,_=>Int.le_refl _
 | n + 1,h=>by
   have h1:=sm_le n fun i hi=>h i (by omega)
   have h2:=h n (by omega)
   rw [smN,smN]; omega
theorem sm_one {x:Nat→Int}:∀ n,(∀ i,i < n→0≤x i)→∀ i,i < n→x i≤smN x n
 | 0,_,i,hi=>absurd hi (Nat.not_lt_zero i)
 | n + 1,h,i,hi=>by
   have h1:=sm_nn n fun i hi=>h i (by omega)
   have h2:=h n (by omega)
   rw [smN]
   by_cases e:i=n
   ·subst e; omega
   ·have:=sm_one n (fun i hi=>h i (by omega)) i (by omega)
    omega
theorem fo_mn {v:Nat→Int}:∀ n i,i≤n→foN mnI v n≤v i
 | 0,i,hi=>by
   have:i=0:=by omega
   subst this; exact Int.le_refl _
 | n + 1,i,hi=>by
   rw [foN]
   by_cases e:i=n + 1
   ·subst e
    rcases mnI_or (foN mnI v n) (v (n + 1)) with ⟨_,e'⟩ | ⟨_,e'⟩<;>rw [e']<;>omega
   ·have:=fo_mn (v:=v) n i (by omega)
    rcases mnI_or (foN mnI v n) (v (n + 1)) with ⟨_,e'⟩ | ⟨_,e'⟩<;>rw [e']<;>omega
theorem fo_mx {v:Nat→Int}:∀ n i,i≤n→v i≤foN mxI v n
 | 0,i,hi=>by
   have:i=0:=by omega
   subst this; exact Int.le_refl _
 | n + 1,i,hi=>by
   rw [foN]
   by_cases e:i=n + 1
   ·subst e
    rcases mxI_or (foN mxI v n) (v (n + 1)) with ⟨_,e'⟩ | ⟨_,e'⟩<;>rw [e']<;>omega
   ·have:=fo_mx (v:=v) n i (by omega)
    rcases mxI_or (foN mxI v n) (v (n + 1)) with ⟨_,e'⟩ | ⟨_,e'⟩<;>rw [e']<;>omega
/-! Means: what is added at the least lowers a mean. -/
theorem avg_lo {m K S d d' Y:Int} (hS:m * S≤K) (h1:d'≤d) (hN:0 < S + d) (hN':0 < S + d') (hY:K + m * d'≤Y):(d * m + K) / (S + d)≤Y / (S + d'):=by
 refine (Int.le_ediv_iff_mul_le hN').2 ?_
 have hq:=Int.ediv_mul_le (d * m + K) (show S + d≠0 by omega)
 generalize (d * m + K) / (S + d)=q at hq
 rcases Int.lt_or_le m q with h | h
 ·have h2:=Int.mul_le_mul_of_nonneg_right (show m≤q by omega) (show 0≤d - d' by omega)
  rw [Int.mul_sub,Int.mul_sub] at h2
  rw [Int.mul_add] at hq ⊢
  rw [Int.mul_comm d m] at hq
  omega
 ·have h2:=Int.mul_le_mul_of_nonneg_right h (show 0≤S + d' by omega)
  rw [Int.mul_add m] at h2
  omega
theorem avg_hi {m K S d d' Y:Int} (hS:K≤m * S) (h1:d'≤d) (hN:0 < S + d) (hN':0 < S + d') (hY:Y≤K + m * d'):-((-Y) / (S + d'))≤-((-(d * m + K)) / (S + d)):=by
 have:=avg_lo (m:=-m) (K:=-K) (S:=S) (d:=d) (d':=d') (Y:=-Y) (by rw [Int.neg_mul]; omega) h1 hN hN' (by rw [Int.neg_mul]; omega)
 have e:d * -m + -K=-(d * m + K):=by rw [Int.mul_neg]; omega
 rw [e] at this
 omega
theorem bxY_lo {c a:List Int} {x lo F:Nat→Int} {d:Int} (hc:∀ i,i < 17→0≤atL c i) (hx:∀ i,i < 17→0≤x i) (ha:∀ i,i < 17→atL a i=atL c i + x i) (hd:smN x 17≤d) (h0:0 < d) (hn:smN (atL a) 17≠0) (hF:∀ i,i < 17→lo i≤F i):mqL (atL c) lo 17 d≤bxY true a F:=by
 have s1:=sm_nn 17 hc
 have s2:=sm_nn 17 hx
 have s3:=sm_add 17 ha
 have k1:=kdo_add (v:=F) 17 ha
 have k2:=do_mono (c:=atL c) (v:=lo) (w:=F) 17 fun i hi=>⟨hc i hi,hF i hi⟩
 have k3:=kdo_lo (m:=foN mnI lo 16) (x:=atL c) (v:=lo) 17 fun i hi=>⟨hc i hi,fo_mn 16 i (by omega)⟩
 have k4:=kdo_lo (m:=foN mnI lo 16) (x:=x) (v:=F) 17 fun i hi=>⟨hx i hi,Int.le_trans (fo_mn 16 i (by omega)) (hF i hi)⟩
 show (d * foN mnI lo 16 + kdoN (atL c) lo 17) / (smN (atL c) 17 + d)≤kdoN (atL a) F 17 / smN (atL a) 17
 rw [s3]
 exact avg_lo k3 hd (by omega) (by omega) (by omega)
theorem bxY_hi {c a:List Int} {x hi' F:Nat→Int} {d:Int} (hc:∀ i,i < 17→0≤atL c i) (hx:∀ i,i < 17→0≤x i) (ha:∀ i,i < 17→atL a i=atL c i + x i) (hd:smN x 17≤d) (h0:0 < d) (hn:smN (atL a) 17≠0) (hF:∀ i,i < 17→F i≤hi' i):bxY false a F≤mqH (atL c) hi' 17 d:=by
 have s1:=sm_nn 17 hc
 have s2:=sm_nn 17 hx
 have s3:=sm_add 17 ha
 have k1:=kdo_add (v:=F) 17 ha
 have k2:=do_mono (c:=atL c) (v:=F) (w:=hi') 17 fun i hi=>⟨hc i hi,hF i hi⟩
 have k3:=kdo_hi (m:=foN mxI hi' 16) (x:=atL c) (v:=hi') 17 fun i hi=>⟨hc i hi,fo_mx 16 i (by omega)⟩
 have k4:=kdo_hi (m:=foN mxI hi' 16) (x:=x) (v:=F) 17 fun i hi=>⟨hx i hi,Int.le_trans (hF i hi) (fo_mx 16 i (by omega))⟩
 show -((-(kdoN (atL a) F 17)) / smN (atL a) 17)≤-((-(d * foN mxI hi' 16 + kdoN (atL c) hi' 17)) / (smN (atL c) 17 + d))
 rw [s3]
 exact avg_hi k3 hd (by omega) (by omega) (by omega)
theorem bxY_mid {a:List Int} {F G:Nat→Int} (ha:∀ i,i < 17→0≤atL a i) (hn:smN (atL a) 17≠0) (hF:∀ i,i < 17→F i≤G i):bxY true a F≤bxY false a G:=by
 have s1:=sm_nn 17 ha
 have k:=do_mono (c:=atL a) (v:=F) (w:=G) 17 fun i hi=>⟨ha i hi,hF i hi⟩
 show kdoN (atL a) F 17 / smN (atL a) 17≤-((-(kdoN (atL a) G 17)) / smN (atL a) 17)
 exact Int.le_trans (Int.ediv_le_ediv (by omega) k) (floor_ceil (by omega))
structure Fld (m r:RvI):Prop where
 len:∀ t,(opL r t).length=(opL m t).length
 l17:∀ t j,j < (opL m t).length→((opL r t).getD j []).length=17
 add:∀ t j,j < (opL m t).length→∃ x:Nat→Int,(∀ i,i < 17→0≤x i)∧smN x 17=m.1∧∀ i,i < 17→atL ((opL r t).getD j []) i=atL ((opL m t).getD j []) i + x i
theorem getD_mem {α:Type} {L:List α} {j:Nat} (h:j < L.length) (d:α):L.getD j d∈L:=by
 rw [List.getD_eq_getElem?_getD,List.getElem?_eq_getElem h]
 exact List.getElem_mem h
theorem fld_c {m r:RvI} (hm:rvB m=true) (hf:Fld m r):BwC r:=fun t j i=>by
 by_cases hj:j < (opL m t).length
 ·by_cases hi:i < 17
  ·obtain ⟨x,h1,h2,h3⟩:=hf.add t j hj
   have c1:=(rv1_17 (op_rv hm t) (getD_mem hj [])).bd i hi
   have x1:=sm_one 17 h1 i hi
   have x2:=h1 i hi
   have d1:=(rvB_in hm).2.2
   rw [h3 i hi]
   omega
  ·have:=hf.l17 t j hj
   unfold atL
   rw [List.getD_eq_getElem?_getD,List.getElem?_eq_none (by omega)]
   exact ⟨Int.le_refl _,by show (0:Int)≤_; omega⟩
 ·have e:(opL r t).getD j []=[]:=by
   rw [List.getD_eq_getElem?_getD,List.getElem?_eq_none (by rw [hf.len t]; omega)]; rfl
  rw [e]
  exact ⟨Int.le_refl _,by show (0:Int)≤_; omega⟩
theorem chA_fo (t:Int) (L:List HpI):∀ i,(chA t L i).1=foN (opT t) (fun j=>(L.getD j H0).1) i∧(chA t L i).2.1=foN (opT t) (fun j=>(L.getD j H0).2.1) i
 | 0=>⟨rfl,rfl⟩
 | i + 1=>by
   have h:=chA_fo t L i
   have e:chA t L (i + 1)=(opT t (chA t L i).1 (L.getD (i + 1) H0).1,opT t (chA t L i).2.1 (L.getD (i + 1) H0).2.1,()):=rfl
   rw [e,foN,foN,← h.1,← h.2]
   exact ⟨rfl,rfl⟩
theorem bx_between {m r:RvI} (hm:rvB m=true) (hf:Fld m r):∀ (n:Nat) (e l t:Int),e=(n:Int)→stB (e,l,t,())=true→bwGd r (e,l,t,())→(hv m (e,l,t,())).1≤bxV true r (e,l,t,())∧bxV true r (e,l,t,())≤bxV false r (e,l,t,())∧bxV false r (e,l,t,())≤(hv m (e,l,t,())).2.1
 | n,e,l,t,he,hs,hg=>by
   have h0:0≤e:=(stB_in hs).1.1
   have h12:e≤12:=(stB_in hs).1.2
   have hF:∀ i,i < 17→(seqH hv m e l t i).1≤sqB true r e l t i∧sqB true r e l t i≤sqB false r e l t i∧sqB false r e l t i≤(seqH hv m e l t i).2.1:=fun i hi=>by
    unfold seqH hpO sqB
    by_cases hp:e > 0
    ·rw [decide_eq_true hp,cond_true,cond_true,cond_true]
     match n,he with
     | 0,he=>omega
     | n + 1,he=>
       exact bx_between hm hf n _ _ _ (by rw [nx_e hp h12]; omega) (nx_st hs hp) ((gdN_nx r hp h12).1 hg i hi)
    ·rw [decide_eq_false hp,cond_false,cond_false,cond_false]
     exact ⟨Int.le_refl _,Int.le_refl _,Int.le_refl _⟩
   rw [hv_eq h0 h12,bxV_eq true r h0 h12,bxV_eq false r h0 h12]
   by_cases h1:(e==0&&l != 0)=true
   ·rw [h1,cond_true,cond_true,cond_true]
    exact ⟨Int.le_refl _,Int.le_refl _,Int.le_refl _⟩
   ·have h1:(e==0&&l != 0)=false:=by
     cases h:(e==0&&l != 0)
     ·rfl
     ·exact absurd h h1
    rw [h1,cond_false,cond_false,cond_false]
    have hq:∀ i,i < 17→OkH (seqH hv m e l t i):=fun i _=>seq_ok hm hs i
    rw [st_eq hm hq,chO_at,List.length_map,(chA_fo t _ _).1,(chA_fo t _ _).2,hf.len t]
    have d1:=(rvB_in hm).2.2
    have hne:=op_ne hm t
    have key:∀ j,j≤(opL m t).length - 1→(((opL m t).map fun c=>syF m.1 (cnZ e c) (seqH hv m e l t)).getD j H0).1≤bxW true r e l t j∧bxW true r e l t j≤bxW false r e l t j∧bxW false r e l t j≤(((opL m t).map fun c=>syF m.1 (cnZ e c) (seqH hv m e l t)).getD j H0).2.1:=fun j hj=>by
     have hj:j < (opL m t).length:=by omega
     have eg:((opL m t).map fun c=>syF m.1 (cnZ e c) (seqH hv m e l t)).getD j H0=syF m.1 (cnZ e ((opL m t).getD j [])) (seqH hv m e l t):=by
      rw [List.getD_eq_getElem?_getD,List.getElem?_map,List.getElem?_eq_getElem hj,List.getD_eq_getElem?_getD,List.getElem?_eq_getElem hj]
      rfl
     rw [eg]
     obtain ⟨x,x1,x2,x3⟩:=hf.add t j hj
     have c1:=(cnZ_17 (rv1_17 (op_rv hm t) (getD_mem hj [])) e).bd
     have hx:∀ i,i < 17→0≤(if e=0∧i=8 then 0 else x i)∧(if e=0∧i=8 then 0 else x i)≤x i:=fun i hi=>by
      have:=x1 i hi
      split<;>omega
     have ha:∀ i,i < 17→atL (cnZ e ((opL r t).getD j [])) i=atL (cnZ e ((opL m t).getD j [])) i + (if e=0∧i=8 then 0 else x i):=fun i hi=>by
      rw [atL_cnZ,atL_cnZ]
      by_cases hz:e=0∧i=8
      ·rw [if_pos hz,if_pos hz,if_pos hz]; rfl
      ·rw [if_neg hz,if_neg hz,if_neg hz]; exact x3 i hi
     have hd:smN (fun i=>if e=0∧i=8 then 0 else x i) 17≤m.1:=by
      rw [← x2]; exact sm_le 17 fun i hi=>(hx i hi).2
     have hn:smN (atL (cnZ e ((opL r t).getD j []))) 17≠0:=by
      by_cases hp:e > 0
      ·have s1:=sm_nn 17 fun i hi=>(c1 i hi).1
       have s2:=sm_add 17 ha
       have s3:smN (fun i=>if e=0∧i=8 then 0 else x i) 17=smN x 17:=by
        have:(fun i=>if e=0∧i=8 then 0 else x i)=x:=by
         funext i
         exact if_neg fun q=>by omega
        rw [this]
       omega
      ·have hz:e=0:=by omega
       subst hz
       have hl:l=0:=by
        have:(l != 0)=false:=h1
        simpa using this
       have hj':j < (opL r t).length:=by rw [hf.len t]; exact hj
       exact hg hl j hj'
     refine ⟨?_,?_,?_⟩
     ·exact bxY_lo (fun i hi=>(c1 i hi).1) (fun i hi=>(hx i hi).1) ha hd (by omega) hn fun i hi=>(hF i hi).1
     ·exact bxY_mid (fun i _=>(cnZ_in (fld_c hm hf) e t j i).1) hn fun i hi=>(hF i hi).2.1
     ·exact bxY_hi (fun i hi=>(c1 i hi).1) (fun i hi=>(hx i hi).1) ha hd (by omega) hn fun i hi=>(hF i hi).2.2
    exact ⟨fo_mono (opT_mm t) _ fun j hj=>(key j hj).1,fo_mono (opT_mm t) _ fun j hj=>(key j hj).2.1,fo_mono (opT_mm t) _ fun j hj=>(key j hj).2.2⟩
theorem between_law {m r:RvI} (hm:rvB m=true) (hf:Fld m r) {s:GsI} (hs:stB s=true) (ha:bwOd 13 r true s []=false) (hb:bwOd 13 r false s []=false):(0≤(hv m s).1∧(hv m s).2.1≤65536)∧(hv m s).1≤bwV 13 r true s []∧bwV 13 r true s []≤bwV 13 r false s []∧bwV 13 r false s []≤(hv m s).2.1:=by
 obtain ⟨e,l,t,u⟩:=s
 have h0:0≤e:=(stB_in hs).1.1
 have h12:e≤12:=(stB_in hs).1.2
 have hc:=fld_c hm hf
 have hl:∀ t,0 < (opL r t).length:=fun t=>by rw [hf.len t]; exact op_ne hm t
 have nil:∀ dn,BwIv dn r []:=fun dn p hp=>by cases hp
 obtain ⟨a1,_,a3⟩:=bwN_ok hc hl 13 (e,l,t,u) [] hs (show e < ((13:Nat):Int) by omega) (nil true) ha
 obtain ⟨b1,_,_⟩:=bwN_ok hc hl 13 (e,l,t,u) [] hs (show e < ((13:Nat):Int) by omega) (nil false) hb
 have ok:=hv_ok hm e.toNat e l t (Int.toNat_of_nonneg h0).symm hs
 have bt:=bx_between hm hf e.toNat e l t (Int.toNat_of_nonneg h0).symm hs a3
 refine ⟨⟨ok.lo,ok.hi⟩,?_⟩
 unfold bwV
 rw [a1,b1]
 exact bt
def flN (o:List Int) (i:Nat):Nat:=if o.length=0 then 9 else (o.getD (i % o.length) 0).toNat % 17
def flC (o:List Int):Nat→Nat→List Int→List Int
 | 0,_,c=>c
 | d + 1,i,c=>flC o d (i + 1) (c.set (flN o i) (c.getD (flN o i) 0 + 1))
def flL (o:List Int) (d:Nat):Nat→List (List Int)→List (List Int)
 | _,[]=>[]
 | i,c :: L=>flC o d i c :: flL o d (i + d) L
def flR (o:List Int) (m:RvI):RvI:=(m.1,flL o m.1.toNat 0 m.2.1,flL o m.1.toNat (m.1.toNat * m.2.1.length) m.2.2)
theorem flN_lt (o:List Int) (i:Nat):flN o i < 17:=by
 unfold flN
 split<;>omega
theorem flC_len (o:List Int):∀ (d i:Nat) (c:List Int),(flC o d i c).length=c.length
 | 0,_,_=>rfl
 | d + 1,i,c=>by rw [flC,flC_len o d,List.length_set]
theorem sm_dl (n:Nat):∀ k,smN (fun j=>if j=n then 1 else 0) k=if n < k then 1 else 0
 | 0=>by rw [smN,if_neg (Nat.not_lt_zero n)]
 | k + 1=>by
   rw [smN,sm_dl n k]
   by_cases h:k=n
   ·subst h
    rw [if_neg (Nat.lt_irrefl k),if_pos rfl,if_pos (Nat.lt_succ_self k)]; rfl
   ·rw [if_neg h]
    by_cases h2:n < k
    ·rw [if_pos h2,if_pos (by omega)]; rfl
    ·rw [if_neg h2,if_neg (by omega)]; rfl
theorem flC_add (o:List Int):∀ (d i:Nat) (c:List Int),c.length=17→∃ x:Nat→Int,(∀ j,j < 17→0≤x j)∧smN x 17=(d:Int)∧∀ j,j < 17→atL (flC o d i c) j=atL c j + x j
 | 0,i,c,_=>⟨fun _=>0,fun _ _=>Int.le_refl _,by decide,fun j _=>(Int.add_zero _).symm⟩
 | d + 1,i,c,hc=>by
   have hn:=flN_lt o i
   obtain ⟨x,h1,h2,h3⟩:=flC_add o d (i + 1) (c.set (flN o i) (c.getD (flN o i) 0 + 1)) (by rw [List.length_set]; exact hc)
   refine ⟨fun j=>(if j=flN o i then 1 else 0) + x j,fun j hj=>?_,?_,fun j hj=>?_⟩
   ·have:=h1 j hj
    show 0≤(if j=flN o i then (1:Int) else 0) + x j
    split<;>omega
   ·rw [sm_add (c:=fun j=>if j=flN o i then 1 else 0) (x:=x) 17 fun _ _=>rfl,sm_dl,if_pos hn,h2]
    omega
   ·rw [flC,h3 j hj]
    have e:atL (c.set (flN o i) (c.getD (flN o i) 0 + 1)) j=atL c j + if j=flN o i then 1 else 0:=by
     unfold atL
     rw [List.getD_eq_getElem?_getD,List.getElem?_set]
     by_cases h:flN o i=j
     ·rw [if_pos h,if_pos (by omega),if_pos h.symm,h]; rfl
     ·rw [if_neg h,if_neg (fun q=>h q.symm),List.getD_eq_getElem?_getD,Int.add_zero]
    rw [e]
    show _=atL c j + ((if j=flN o i then (1:Int) else 0) + x j)
    omega
theorem flL_len (o:List Int) (d:Nat):∀ (i:Nat) (L:List (List Int)),(flL o d i L).length=L.length
 | _,[]=>rfl
 | i,c :: L=>by rw [flL,List.length_cons,List.length_cons,flL_len o d]
theorem flL_at (o:List Int) (d:Nat):∀ (i:Nat) (L:List (List Int)) (j:Nat),j < L.length→(flL o d i L).getD j []=flC o d (i + d * j) (L.getD j [])
 | _,[],j,hj=>absurd hj (Nat.not_lt_zero j)
 | i,c :: L,0,_=>by rw [flL,Nat.mul_zero]; rfl
 | i,c :: L,j + 1,hj=>by
   rw [flL]
   show (flL o d (i + d) L).getD j []=flC o d (i + d * (j + 1)) (L.getD j [])
   rw [flL_at o d (i + d) L j (by simpa using hj),Nat.mul_succ,Nat.add_assoc,Nat.add_comm d]
theorem fl_fld {m:RvI} (hm:rvB m=true) (o:List Int):Fld m (flR o m):=by
 have hd:=(rvB_in hm).2.2
 have hop:∀ t,∃ i,opL (flR o m) t=flL o m.1.toNat i (opL m t):=fun t=>by
  unfold opL flR
  cases t==0
  ·exact ⟨_,rfl⟩
  ·exact ⟨_,rfl⟩
 refine ⟨fun t=>?_,fun t j hj=>?_,fun t j hj=>?_⟩
 ·obtain ⟨i,e⟩:=hop t
  rw [e,flL_len]
 ·obtain ⟨i,e⟩:=hop t
  rw [e,flL_at _ _ _ _ _ hj,flC_len]
  exact (rv1_17 (op_rv hm t) (getD_mem hj [])).len
 ·obtain ⟨i,e⟩:=hop t
  rw [e,flL_at _ _ _ _ _ hj]
  obtain ⟨x,h1,h2,h3⟩:=flC_add o m.1.toNat (i + m.1.toNat * j) ((opL m t).getD j []) (rv1_17 (op_rv hm t) (getD_mem hj [])).len
  exact ⟨x,h1,by rw [h2]; exact Int.toNat_of_nonneg (by omega),h3⟩
theorem fl_bwOk {m:RvI} (hm:rvB m=true) (o:List Int):bwOk (flR o m)=true:=by
 have hf:=fl_fld hm o
 have key:∀ t,bw17 (opL (flR o m) t)=true:=fun t=>by
  have h8:=(rv1_in (op_rv hm t)).2.1
  have hl:=hf.len t
  unfold bw17
  rw [decide_eq_true (show (opL (flR o m) t).length≤8 by omega),Bool.true_and,List.all_eq_true]
  intro c hc
  obtain ⟨j,hj,rfl⟩:=List.mem_iff_getElem.1 hc
  have:=hf.l17 t j (by omega)
  rw [List.getD_eq_getElem?_getD,List.getElem?_eq_getElem hj] at this
  exact beq_iff_eq.2 this
 unfold bwOk
 rw [Bool.and_eq_true]
 exact ⟨key 0,key 1⟩
end Go.Proofs.Ytneggblnfobfcaa
namespace Go.Proofs.Ytneggblnfobfcaa
def sel2 {β:Type} (A B:β) {α:Type} (x:Int) (f:β→Option α):Option α:=
 if 0≤x∧x < ((2:Nat):Int) then bif x==((0:Nat):Int) then f A else bif x==((0 + 1:Nat):Int) then f B else none else none
theorem sel2_eq {β:Type} (A B:β) {α:Type} (i:Nat) (hi:i < 2) (f:β→Option α):sel2 A B (i:Int) f=f ([A,B].getD i A):=by
 match i,hi with
 | 0,_=>rfl
 | 1,_=>rfl
open Go.RowKit
def prC:List Int:=(List.replicate (Int.toNat 17) 0).set (Int.toNat 9) 1
theorem kpa_text (N n0:Nat) (α:Type) (k:AOut→Option α):evFn real tab ((twP fsK7 spK).env real tab N (n0 + 30)) N Try.f10 α [] k=k (.ret (.agg [.int .i64 1,.ro LsSh [prC],.ro LsSh [prC]])):=by kernel_rfl
noncomputable def kpaS:Fsp:=fun _ args k=>match args with
 | []=>k (.ret (.agg [.int .i64 1,.ro LsSh [prC],.ro LsSh [prC]]))
 | _=>none
theorem kpaS_ok:FspOk Try.prog 10 kpaS:=tower_P fsK7_ok spK_ok ⟨Try.func10,fun _ _=>by kernel_rfl⟩ (by intro α args k; unfold kpaS; split<;>rfl) fun args out hSm hEq=>by
 unfold kpaS at hEq
 split at hEq
 ·exact ⟨20,30,(kpa_text 20 0 AOut some).trans hEq⟩
 ·cases hEq
noncomputable def fsK8:FuncId→Option Fsp:=fun g=>
 if g=10 then some kpaS else
 fsK7 g
theorem fsK8_ok:FsOk fsK8:=
 fs_cons kpaS_ok <|
 fsK7_ok
set_option maxRecDepth 100000 in
theorem kal_text (N n0:Nat) (α:Type) (k:AOut→Option α):evFn real tab ((twY fsK8 spK).env real tab N (n0 + 30)) N Try.f4 α [] k=k (b1 true):=by kernel_rfl
noncomputable def kalS:Fsp:=fun _ args k=>match args with
 | []=>k (b1 true)
 | _=>none
theorem kalS_ok:FspOk Try.prog 4 kalS:=tower_Y fsK8_ok spK_ok ⟨Try.func4,fun _ _=>by kernel_rfl⟩ (by intro α args k; unfold kalS; split<;>rfl) fun args out hSm hEq=>by
 unfold kalS at hEq
 split at hEq
 ·exact ⟨20,30,(kal_text 20 0 AOut some).trans hEq⟩
 ·cases hEq
/-! Great -/
def grI {α:Type} (A B:List (List Int)) (t:Int) (R:Option α) (x:Int × Unit):Option (LRes (Int × Unit) α):=
 sel2 A B t fun L=>bif decide (x.1 < (L.length:Int)) then sel2 A B t fun L=>if 0≤x.1∧x.1 < (L.length:Int) then bif decide (((L.getD x.1.toNat []).length:Int) > 60) then finL R else some (.cont (IntKind.i64.wrap (x.1 + 1),())) else none else some (.brk 2 (x.1,()))
def grR {α:Type} (N:Nat) (A B:List (List Int)) (t:Int) (R E:Option α):Option α:=
 sel2 A B t fun L=>bif decide ((L.length:Int) > 9) then R else afterL (iterL N (grI A B t R) (0,())) fun id _=>if id=2 then E else none
def grF {α:Type} (N:Nat) (A B:List (List Int)) (R:Option α) (x:Int × Unit):Option (LRes (Int × Unit) α):=
 bif decide (x.1 < 2) then sel2 A B x.1 fun L=>bif decide ((L.length:Int) > 3) then sel2 A B x.1 fun L=>bif decide ((L.length:Int)≤8) then finL R else grR N A B x.1 (finL R) (some (.cont (IntKind.i64.wrap (x.1 + 1),()))) else grR N A B x.1 (finL R) (some (.cont (IntKind.i64.wrap (x.1 + 1),())))
 else some (.brk 0 (x.1,()))
set_option maxRecDepth 100000 in
theorem grt_text (N n0:Nat) (α:Type) (d:Int) (A B:List (List Int)) (k:AOut→Option α):evFn real tab ((twY fsK8 spK).env real tab N (n0 + 30)) N Try.f12 α [.agg [.int .i64 d,.ro LsSh A,.ro LsSh B]] k=afterL (iterL N (grF N A B (k (b1 true))) (0,())) fun id _=>if id=0 then k (b1 false) else none:=by kernel_rfl
def gr1 (L:List (List Int)):Bool:=(decide (3 < L.length)&&decide (L.length≤8)) || (decide (9 < L.length) || L.any fun c=>decide (60 < c.length))
def grB (A B:List (List Int)):Bool:=gr1 A || gr1 B
theorem grR_eq {α:Type} {N:Nat} (hN:12 < N) (A B:List (List Int)) (i:Nat) (hi:i < 2) (R E:Option α):grR N A B (i:Int) R E=bif decide (9 < ([A,B].getD i A).length) || ([A,B].getD i A).any (fun c=>decide (60 < c.length)) then R else E:=by
 unfold grR
 rw [sel2_eq A B i hi]
 generalize hL:[A,B].getD i A=L
 by_cases h9:9 < L.length
 ·rw [decide_eq_true (show (L.length:Int) > 9 by omega),decide_eq_true h9]; rfl
 rw [decide_eq_false (show ¬ (L.length:Int) > 9 by omega),decide_eq_false h9,cond_false,Bool.false_or]
 have hmx:L.length≤maxLen:=by have:maxLen=9223372036854775807:=rfl; omega
 refine (any_loop' (f:=grI A B (i:Int) R) (fun j:Nat=>((j:Int),())) L.length (fun j=>decide (60 < (L.getD j []).length)) R (fun j hj=>?_) (y:=((L.length:Int),())) (b:=2) ?_ (by omega)).trans ?_
 ·unfold grI
  rw [sel2_eq A B i hi,sel2_eq A B i hi,hL]
  simp only [lt_len hj,cond_true,in_len hj,if_pos,and_self,decide_true,Int.toNat_natCast,wrap_next hj hmx]
  rw [show decide (((L.getD j []).length:Int) > 60)=decide (60 < (L.getD j []).length) from decide_eq_decide.2 (by omega)]
 ·unfold grI
  rw [sel2_eq A B i hi,hL]
  simp only [not_lt_len,cond_false]
 ·rw [if_pos rfl,any_rangeX L [] fun c=>decide (60 < c.length)]
theorem gr_plain {α:Type} {N:Nat} (hN:12 < N) (A B:List (List Int)) (k:AOut→Option α):(afterL (iterL N (grF N A B (k (b1 true))) (0,())) fun id _=>if id=0 then k (b1 false) else none)=k (b1 (grB A B)):=by
 refine (any_loop' (f:=grF N A B (k (b1 true))) (fun i:Nat=>((i:Int),())) 2 (fun i=>gr1 ([A,B].getD i A)) (k (b1 true)) (fun i hi=>?_) (y:=(2,())) (b:=0) ?_ (by omega)).trans ?_
 ·unfold grF
  simp only []
  rw [decide_eq_true (show (i:Int) < 2 by omega),cond_true,sel2_eq A B i hi,sel2_eq A B i hi,grR_eq hN A B i hi,wrap_next (show i < 2 by omega) (by decide)]
  unfold gr1
  generalize [A,B].getD i A=L
  rw [show decide ((L.length:Int) > 3)=decide (3 < L.length) from decide_eq_decide.2 (by omega),show decide ((L.length:Int)≤8)=decide (L.length≤8) from decide_eq_decide.2 (by omega)]
  cases decide (3 < L.length)
  ·cases decide (9 < L.length) || L.any fun c=>decide (60 < c.length)<;>rfl
  cases decide (L.length≤8)
  ·cases decide (9 < L.length) || L.any fun c=>decide (60 < c.length)<;>rfl
  ·rfl
 ·rfl
 ·rw [if_pos rfl]
  show (bif (gr1 A || (gr1 B || false)) then _ else _)=_
  unfold grB
  cases gr1 A
  ·cases gr1 B<;>rfl
  ·rfl
noncomputable def grtS:Fsp:=fun _ args k=>match args with
 | [.agg [.int .i64 _,.ro (.sl (.int .i64)) A,.ro (.sl (.int .i64)) B]]=>k (b1 (grB A B))
 | _=>none
theorem grtS_ok:FspOk Try.prog 12 grtS:=tower_Y fsK8_ok spK_ok ⟨Try.func12,fun _ _=>by kernel_rfl⟩ (by intro α args k; unfold grtS; split<;>rfl) fun args out hSm hEq=>by
 unfold grtS at hEq
 split at hEq
 ·rename_i d A B
  exact ⟨20,30,((grt_text 20 0 AOut d A B some).trans (gr_plain (by decide) A B some)).trans hEq⟩
 ·cases hEq
noncomputable def fsK9:FuncId→Option Fsp:=fun g=>
 if g=4 then some kalS else
 if g=12 then some grtS else
 fsK8 g
theorem fsK9_ok:FsOk fsK9:=
 fs_cons kalS_ok <|
 fs_cons grtS_ok <|
 fsK8_ok
theorem fsp_weak {P:Program} {f:FuncId} {S S':Fsp} (h:FspOk P f S) (hn:∀ (α:Type) args (k:AOut→Option α),S' α args k=(S' AOut args some).bind k) (hs:∀ args out,S' AOut args some=some out→S AOut args some=some out):FspOk P f S' where
 enter:=h.enter
 nat:=hn
 calls:=fun args out hout=>h.calls args out (hs args out hout)
noncomputable def kvaB:Fsp:=fun _ args k=>match args with
 | [.agg [.int .i64 d,.ro (.sl (.int .i64)) A,.ro (.sl (.int .i64)) B],.agg [.int .i64 e,.int .i64 l,.int .i64 t]]=>bif rsB d A B e l t then k (.ret (.tup [hpA (hv (d,A,B) (e,l,t,())).1 (hv (d,A,B) (e,l,t,())).2.1,.int .i64 0])) else k (.ret (.tup [hpA 0 0,.int .i64 2]))
 | _=>none
theorem kvaB_ok:FspOk Try.prog 6 kvaB:=fsp_weak kvaS_ok (by intro α args k; unfold kvaB; split<;>simp only [cond_bind,Option.bind_some,Option.bind_none]) fun args out h=>by
 unfold kvaB at h
 split at h
 ·rename_i d A B e l t
  unfold kvaS
  cases hr:rsB d A B e l t
  ·rw [hr] at h
   refine Eq.trans ?_ h
   unfold vaL vaH rsE
   show some _=some _
   rw [hr]
   rfl
  ·rw [hr] at h
   refine Eq.trans ?_ h
   unfold vaL vaH rsE
   show some _=some _
   rw [hr]
   rfl
 ·cases h
def loB (A B:List (List Int)) (e n:Int):Bool:=grB A B || (decide (e > n)&&decide (e≤12))
theorem klo_text (N n0:Nat) (α:Type) (d:Int) (A B:List (List Int)) (e l t n:Int) (k:AOut→Option α):evFn real tab ((twY fsK9 spK).env real tab N (n0 + 30)) N Try.f5 α [.agg [.int .i64 d,.ro LsSh A,.ro LsSh B],.agg [.int .i64 e,.int .i64 l,.int .i64 t],.int .i64 n] k =
 bif grB A B then k (b1 true) else bif decide (e > n) then k (b1 (decide (e≤12))) else k (b1 false):=by kernel_rfl
noncomputable def kloS:Fsp:=fun _ args k=>match args with
 | [.agg [.int .i64 _,.ro (.sl (.int .i64)) A,.ro (.sl (.int .i64)) B],.agg [.int .i64 e,.int .i64 _,.int .i64 _],.int .i64 n]=>k (b1 (loB A B e n))
 | _=>none
theorem kloS_ok:FspOk Try.prog 5 kloS:=tower_Y fsK9_ok spK_ok ⟨Try.func5,fun _ _=>by kernel_rfl⟩ (by intro α args k; unfold kloS; split<;>rfl) fun args out hSm hEq=>by
 unfold kloS at hEq
 split at hEq
 ·rename_i d A B e l t n
  refine ⟨20,30,((klo_text 20 0 AOut d A B e l t n some).trans ?_).trans hEq⟩
  unfold loB
  cases grB A B
  ·cases decide (e > n)<;>rfl
  ·rfl
 ·cases hEq
def flO (o:List Int):Bool:=decide (o.length≤200)&&o.all fun n=>decide (0≤n)&&decide (n≤255)
def flB (d:Int) (A B:List (List Int)) (o:List Int):Bool:=rvB (d,A,B)&&flO o
def flA (d:Int) (A:List (List Int)) (o:List Int):List (List Int):=flL o d.toNat 0 A
def flZ (d:Int) (A B:List (List Int)) (o:List Int):List (List Int):=flL o d.toNat (d.toNat * A.length) B
noncomputable def kflS:Fsp:=fun _ args k=>match args with
 | [.agg [.int .i64 d,.ro (.sl (.int .i64)) A,.ro (.sl (.int .i64)) B],.ro (.int .u8) o]=>bif flB d A B o then k (.ret (.agg [.int .i64 d,.ro LsSh (flA d A o),.ro LsSh (flZ d A B o)])) else none
 | _=>none
noncomputable def fsK12:FuncId→Option Fsp:=fun g=>
 if g=7 then some kflS else
 if g=5 then some kloS else
 if g=6 then some kvaB else
 fsK9 g
set_option maxRecDepth 100000 in
set_option maxRecDepth 100000 in
theorem kbw_text (N n0:Nat) (α:Type) (D:RvI→Bool→GsI→MqI→Bool) (V:RvI→Bool→GsI→MqI→Int) (O:RvI→Bool→GsI→MqI→Bool) (W:RvI→Bool→GsI→MqI→MqI) (d:Int) (A B:List (List Int)) (e l t:Int) (o:List Int) (k:AOut→Option α):evFn real tab ((twN fsK12 (spBw D V O W)).env real tab N (n0 + 30)) N Try.f3 α [.agg [.int .i64 d,.ro LsSh A,.ro LsSh B],.agg [.int .i64 e,.int .i64 l,.int .i64 t],.ro (.int .u8) o] k =
 bif loB A B e 4 then k (AOut.ret (AVal.bool true)) else bif decide ((↑o.length:Int) > 200) then k (AOut.ret (AVal.bool true)) else bif decide (d > 40) then k (AOut.ret (AVal.bool
 true)) else bif rsB d A B e l t then bif flB d A B o then bif !false&&D (d,flA d A o,flZ d A B o) true (e,l,t,()) [] then bif !false&&D (d,flA d A o,flZ d A B o) false
 (e,l,t,()) [] then bif O (d,flA d A o,flZ d A B o) true (e,l,t,()) [] then k (AOut.ret (AVal.bool true)) else bif O (d,flA d A o,flZ d A B o) false (e,l,t,()) [] then k
 (AOut.ret (AVal.bool true)) else bif decide ((hv (d,A,B) (e,l,t,())).fst ≥ 0) then bif decide ((hv (d,A,B) (e,l,t,())).fst≤V (d,flA d A o,flZ d A B o) true (e,l,t,
 ()) []) then bif decide (V (d,flA d A o,flZ d A B o) true (e,l,t,()) []≤V (d,flA d A o,flZ d A B o) false (e,l,t,()) []) then bif decide (V (d,flA d A o,flZ d A B o)
 false (e,l,t,()) []≤(hv (d,A,B) (e,l,t,())).snd.fst) then k (AOut.ret (AVal.bool (decide ((hv (d,A,B) (e,l,t,())).snd.fst≤65536)))) else k (AOut.ret (AVal.bool
 false)) else k (AOut.ret (AVal.bool false)) else k (AOut.ret (AVal.bool false)) else k (AOut.ret (AVal.bool false)) else none else none else none else k (AOut.ret (AVal.bool (0==0
 && (0==0&&true)))):=by kernel_rfl
def flU (o:List Int):Bool:=o.all fun n=>decide (0≤n)&&decide (n≤255)
theorem kbw_plain {d:Int} {A B:List (List Int)} {e l t:Int} {o:List Int} (hr:rsB d A B e l t=true) (hU:flU o=true) (hl:¬ (o.length:Int) > 200) :
  flB d A B o=true∧(∀ dn,(!false&&bwD 13 (d,flA d A o,flZ d A B o) dn (e,l,t,()) [])=true) ∧
  (bwOd 13 (d,flA d A o,flZ d A B o) true (e,l,t,()) []=false→bwOd 13 (d,flA d A o,flZ d A B o) false (e,l,t,()) []=false →
   (0≤(hv (d,A,B) (e,l,t,())).1∧(hv (d,A,B) (e,l,t,())).2.1≤65536)∧(hv (d,A,B) (e,l,t,())).1≤bwV 13 (d,flA d A o,flZ d A B o) true (e,l,t,()) []∧bwV 13 (d,flA d A o,flZ d A B o) true (e,l,t,()) []≤bwV 13 (d,flA d A o,flZ d A B o) false (e,l,t,()) []∧bwV 13 (d,flA d A o,flZ d A B o) false (e,l,t,()) []≤(hv (d,A,B) (e,l,t,())).2.1):=by
 unfold rsB at hr
 rw [Bool.and_eq_true] at hr
 obtain ⟨hm,hs⟩:=hr
 have h12:e≤12:=(stB_in hs).1.2
 refine ⟨?_,fun dn=>?_,fun ha hb=>between_law hm (fl_fld hm o) hs ha hb⟩
 ·unfold flB flO
  rw [hm,decide_eq_true (show o.length≤200 by omega)]
  exact hU
 ·unfold bwD
  rw [show bwOk (d,flA d A o,flZ d A B o)=true from fl_bwOk hm o,hs,decide_eq_true (show e < ((13:Nat):Int) by omega)]
  rfl
theorem kbw_true (d:Int) (A B:List (List Int)) (e l t:Int) (o:List Int) (hU:flU o=true):evFn real tab ((twN fsK12 spBc).env real tab 20 30) 20 Try.f3 AOut [.agg [.int .i64 d,.ro LsSh A,.ro LsSh B],.agg [.int .i64 e,.int .i64 l,.int .i64 t],.ro (.int .u8) o] some=some (b1 true):=by
 refine (kbw_text 20 0 AOut (bwD 13) (bwV 13) (bwOd 13) (bwW 13) d A B e l t o some).trans ?_
 cases loB A B e 4
 ·rw [cond_false]
  by_cases h1:(o.length:Int) > 200
  ·rw [decide_eq_true h1,cond_true]; rfl
  ·rw [decide_eq_false h1,cond_false]
   by_cases h2:d > 40
   ·rw [decide_eq_true h2,cond_true]; rfl
   ·rw [decide_eq_false h2,cond_false]
    cases hr:rsB d A B e l t
    ·rfl
    ·obtain ⟨p1,p2,p3⟩:=kbw_plain hr hU h1
     rw [p1,p2 true,p2 false,cond_true,cond_true,cond_true,cond_true]
     cases ha:bwOd 13 (d,flA d A o,flZ d A B o) true (e,l,t,()) []
     ·cases hb:bwOd 13 (d,flA d A o,flZ d A B o) false (e,l,t,()) []
      ·obtain ⟨⟨q1,q2⟩,q3,q4,q5⟩:=p3 ha hb
       rw [cond_false,cond_false,decide_eq_true (show (hv (d,A,B) (e,l,t,())).1 ≥ 0 from q1),decide_eq_true q3,decide_eq_true q4,decide_eq_true q5,decide_eq_true q2]
       rfl
      ·rfl
     ·rfl
 ·rfl
def kbwF:List AVal→Option AOut
 | [.agg [.int .i64 _,.ro (.sl (.int .i64)) _,.ro (.sl (.int .i64)) _],.agg [.int .i64 _,.int .i64 _,.int .i64 _],.ro (.int .u8) o]=>if flU o=true then some (b1 true) else none
 | _=>none
theorem kbw_ok (hfl:FspOk Try.prog 7 kflS):FspOk Try.prog 3 (toFsp kbwF):=tower_N (fs_cons hfl <| fs_cons kloS_ok <| fs_cons kvaB_ok <| fsK9_ok) spBc_ok ⟨Try.func3,fun _ _=>by kernel_rfl⟩ (toFsp_nat _) fun args out hSm hq=>by
 have h:=toFsp_some hq
 unfold kbwF at h
 split at h
 ·rename_i d A B e l t o
  split at h
  ·rename_i hU
   exact ⟨20,30,(kbw_true d A B e l t o hU).trans h⟩
  ·cases h
 ·cases h
end Go.Proofs.Ytneggblnfobfcaa
