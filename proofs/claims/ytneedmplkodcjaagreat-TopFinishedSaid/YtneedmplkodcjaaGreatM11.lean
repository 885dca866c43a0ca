/- Parts of the proof, in build order. -/
import Derived.Test.YtneedmplkodcjaaGreatM10
import Derived.Test.YtneedmplkodcjaaGreatM9
import Derived.Test.YtneedmplkodcjaaGreatM8
namespace Go.Proofs.YtneedmplkodcjaaGreat
open Go.RowKit
noncomputable def noS:Fsp:=fun _ _ _=>none
theorem noS_ok:FspOk Tryz.prog 118 noS:=tower_Y fsShe1_ok spM0_ok ⟨Tryz.func118,fun _ _=>by kernel_rfl⟩ (fun _ _ _=>rfl) fun args out hSm hEq=>by cases hEq
noncomputable def fsSor:FuncId→Option Fsp:=fun g=>
 if g=118 then some noS else
 fsShe1 g
set_option maxRecDepth 100000 in
set_option maxRecDepth 100000 in
theorem qne_text (N n0:Nat) (α:Type) (l:List SnI) (k:AOut→Option α):evFn real tab ((twY fsSor spM0).env real tab N (n0+30)) N Tryz.f17 α [.ro (.recd (.cons (.int .i64) (.cons (.int .i64) (.cons (.recd (.cons (.int .i64) (.cons (.int .i64) .nil))) .nil)))) l] k =
 afterL (iterL N (fun (x:Int × List Int × PUnit)=>bif decide (x.fst<(↑l.length:Int)) then if 0≤x.fst∧x.fst<(↑l.length:Int) then bif qspB (l.getD x.fst.toNat (0,0,
 (0,0,()),())).snd.snd.fst.fst (l.getD x.fst.toNat (0,0,(0,0,()),())).snd.snd.fst.snd.fst then bif qzn (l.getD x.fst.toNat (0,0,(0,0,()),())).snd.snd.fst.fst (l.getD
 x.fst.toNat (0,0,(0,0,()),())).snd.snd.fst.snd.fst==2 then if (x.snd.fst.length+[x.fst].length)*8≤room then some (LRes.cont (IntKind.i64.wrap (x.fst+1),x.snd.fst ++
 [x.fst],PUnit.unit)) else none else some (LRes.cont (IntKind.i64.wrap (x.fst+1),x.snd.fst,PUnit.unit)) else none else none else some (LRes.brk 0 (x.fst,x.snd.fst,
 PUnit.unit))) (0,[],PUnit.unit)) fun (id:Nat) (y:Int × List Int × PUnit)=>if id=0 then afterL (iterL N (fun (x:Int × Int × PUnit)=>bif decide (x.snd.fst ≤
 (↑y.snd.fst.length:Int)) then afterL (iterL N (fun (x_1:Int × PUnit)=>bif decide (x_1.fst<x.snd.fst) then afterL (iterL N (fun (x_2:Int × PUnit)=>bif decide (x_2.fst >
 x.fst) then if 0≤x_2.fst∧x_2.fst<(↑y.snd.fst.length:Int) then if 0≤IntKind.i64.wrap (x_2.fst-1)∧IntKind.i64.wrap (x_2.fst-1)<(↑y.snd.fst.length:Int) then if 0 ≤
 y.snd.fst.getD x_2.fst.toNat 0∧y.snd.fst.getD x_2.fst.toNat 0<(↑l.length:Int) then if 0≤y.snd.fst.getD (IntKind.i64.wrap (x_2.fst-1)).toNat 0∧y.snd.fst.getD
 (IntKind.i64.wrap (x_2.fst-1)).toNat 0<(↑l.length:Int) then bif decide (IntKind.i64.wrap (IntKind.i64.wrap ((l.getD (y.snd.fst.getD x_2.fst.toNat 0).toNat (0,0,(0,0,()),
 ())).snd.snd.fst.fst*(l.getD (y.snd.fst.getD x_2.fst.toNat 0).toNat (0,0,(0,0,()),())).snd.snd.fst.fst)+IntKind.i64.wrap ((l.getD (y.snd.fst.getD x_2.fst.toNat 0).toNat (0,
 0,(0,0,()),())).snd.snd.fst.snd.fst*(l.getD (y.snd.fst.getD x_2.fst.toNat 0).toNat (0,0,(0,0,()),())).snd.snd.fst.snd.fst))<IntKind.i64.wrap (IntKind.i64.wrap ((l.getD
 (y.snd.fst.getD (IntKind.i64.wrap (x_2.fst-1)).toNat 0).toNat (0,0,(0,0,()),())).snd.snd.fst.fst*(l.getD (y.snd.fst.getD (IntKind.i64.wrap (x_2.fst-1)).toNat 0).toNat (0,
 0,(0,0,()),())).snd.snd.fst.fst)+IntKind.i64.wrap ((l.getD (y.snd.fst.getD (IntKind.i64.wrap (x_2.fst-1)).toNat 0).toNat (0,0,(0,0,()),())).snd.snd.fst.snd.fst *
 (l.getD (y.snd.fst.getD (IntKind.i64.wrap (x_2.fst-1)).toNat 0).toNat (0,0,(0,0,()),())).snd.snd.fst.snd.fst))) then if 0≤IntKind.i64.wrap (x_2.fst-1)∧IntKind.i64.wrap
 (x_2.fst-1)<(↑y.snd.fst.length:Int) then if 0≤x_2.fst∧x_2.fst<(↑y.snd.fst.length:Int) then if 0≤x_2.fst∧x_2.fst<(↑y.snd.fst.length:Int) then none else none
 else none else none else bif decide (IntKind.i64.wrap (IntKind.i64.wrap ((l.getD (y.snd.fst.getD x_2.fst.toNat 0).toNat (0,0,(0,0,()),())).snd.snd.fst.fst*(l.getD
 (y.snd.fst.getD x_2.fst.toNat 0).toNat (0,0,(0,0,()),())).snd.snd.fst.fst)+IntKind.i64.wrap ((l.getD (y.snd.fst.getD x_2.fst.toNat 0).toNat (0,0,(0,0,()),
 ())).snd.snd.fst.snd.fst*(l.getD (y.snd.fst.getD x_2.fst.toNat 0).toNat (0,0,(0,0,()),())).snd.snd.fst.snd.fst))>IntKind.i64.wrap (IntKind.i64.wrap ((l.getD (y.snd.fst.getD
 (IntKind.i64.wrap (x_2.fst-1)).toNat 0).toNat (0,0,(0,0,()),())).snd.snd.fst.fst*(l.getD (y.snd.fst.getD (IntKind.i64.wrap (x_2.fst-1)).toNat 0).toNat (0,0,(0,0,()),
 ())).snd.snd.fst.fst)+IntKind.i64.wrap ((l.getD (y.snd.fst.getD (IntKind.i64.wrap (x_2.fst-1)).toNat 0).toNat (0,0,(0,0,()),())).snd.snd.fst.snd.fst*(l.getD
 (y.snd.fst.getD (IntKind.i64.wrap (x_2.fst-1)).toNat 0).toNat (0,0,(0,0,()),())).snd.snd.fst.snd.fst))) then some (LRes.brk 2 (x_2.fst,PUnit.unit)) else some (LRes.brk 2
 (x_2.fst,PUnit.unit)) else none else none else none else none else some (LRes.brk 2 (x_2.fst,PUnit.unit))) (x_1.fst,PUnit.unit)) fun (id:Nat) (y:Int × PUnit)=>if id=2
 then some (LRes.cont (IntKind.i64.wrap (x_1.fst+1),PUnit.unit)) else none else some (LRes.brk 0 (x_1.fst,PUnit.unit))) (IntKind.i64.wrap (x.fst+1),PUnit.unit)) fun (id:Nat)
 (y:Int × PUnit)=>if id=0 then some (LRes.cont (x.snd.fst,IntKind.i64.wrap (x.snd.fst+20),PUnit.unit)) else none else some (LRes.brk 0 (x.fst,x.snd.fst,PUnit.unit))) (0,
 20,PUnit.unit)) fun (id:Nat) (y_1:Int × Int × PUnit)=>if id=0 then afterL (iterL N (fun (x:List Int × Int × List (Int × Int × (Int × Int × PUnit) × PUnit) × PUnit)=>bif
 decide (x.2.fst<(↑y.snd.fst.length:Int)) then afterL (iterL N (fun (x:List Int × Int × List (Int × Int × (Int × Int × PUnit) × PUnit) × PUnit)=>bif decide (x.2.fst >
 y_1.fst) then if 0≤x.2.fst∧x.2.fst<(↑x.fst.length:Int) then if 0≤IntKind.i64.wrap (x.2.fst-1)∧IntKind.i64.wrap (x.2.fst-1)<(↑x.fst.length:Int) then if 0 ≤
 x.fst.getD x.2.fst.toNat 0∧x.fst.getD x.2.fst.toNat 0<(↑x.2.snd.fst.length:Int) then if 0≤x.fst.getD (IntKind.i64.wrap (x.2.fst-1)).toNat 0∧x.fst.getD (IntKind.i64.wrap
 (x.2.fst-1)).toNat 0<(↑x.2.snd.fst.length:Int) then bif decide (IntKind.i64.wrap (IntKind.i64.wrap ((x.2.snd.fst.getD (x.fst.getD x.2.fst.toNat 0).toNat (0,0,(0,0,()),
 ())).snd.snd.fst.fst*(x.2.snd.fst.getD (x.fst.getD x.2.fst.toNat 0).toNat (0,0,(0,0,()),())).snd.snd.fst.fst)+IntKind.i64.wrap ((x.2.snd.fst.getD (x.fst.getD x.2.fst.toNat
 0).toNat (0,0,(0,0,()),())).snd.snd.fst.snd.fst*(x.2.snd.fst.getD (x.fst.getD x.2.fst.toNat 0).toNat (0,0,(0,0,()),())).snd.snd.fst.snd.fst))<IntKind.i64.wrap
 (IntKind.i64.wrap ((x.2.snd.fst.getD (x.fst.getD (IntKind.i64.wrap (x.2.fst-1)).toNat 0).toNat (0,0,(0,0,()),())).snd.snd.fst.fst*(x.2.snd.fst.getD (x.fst.getD
 (IntKind.i64.wrap (x.2.fst-1)).toNat 0).toNat (0,0,(0,0,()),())).snd.snd.fst.fst)+IntKind.i64.wrap ((x.2.snd.fst.getD (x.fst.getD (IntKind.i64.wrap (x.2.fst-1)).toNat
 0).toNat (0,0,(0,0,()),())).snd.snd.fst.snd.fst*(x.2.snd.fst.getD (x.fst.getD (IntKind.i64.wrap (x.2.fst-1)).toNat 0).toNat (0,0,(0,0,()),())).snd.snd.fst.snd.fst)))
 then if 0≤IntKind.i64.wrap (x.2.fst-1)∧IntKind.i64.wrap (x.2.fst-1)<(↑x.fst.length:Int) then if 0≤x.2.fst∧x.2.fst<(↑x.fst.length:Int) then if 0≤x.2.fst ∧
 x.2.fst<(↑x.fst.length:Int) then if 0≤IntKind.i64.wrap (x.2.fst-1)∧IntKind.i64.wrap (x.2.fst-1)<(↑(x.fst.set x.2.fst.toNat (x.fst.getD (IntKind.i64.wrap (x.2.fst -
 1)).toNat 0)).length:Int) then some (LRes.cont ((x.fst.set x.2.fst.toNat (x.fst.getD (IntKind.i64.wrap (x.2.fst-1)).toNat 0)).set (IntKind.i64.wrap (x.2.fst-1)).toNat
 (x.fst.getD x.2.fst.toNat 0),IntKind.i64.wrap (x.2.fst-1),x.2.snd.fst,PUnit.unit)) else none else none else none else none else bif decide (IntKind.i64.wrap (IntKind.i64.wrap
 ((x.2.snd.fst.getD (x.fst.getD x.2.fst.toNat 0).toNat (0,0,(0,0,()),())).snd.snd.fst.fst*(x.2.snd.fst.getD (x.fst.getD x.2.fst.toNat 0).toNat (0,0,(0,0,()),
 ())).snd.snd.fst.fst)+IntKind.i64.wrap ((x.2.snd.fst.getD (x.fst.getD x.2.fst.toNat 0).toNat (0,0,(0,0,()),())).snd.snd.fst.snd.fst*(x.2.snd.fst.getD (x.fst.getD
 x.2.fst.toNat 0).toNat (0,0,(0,0,()),())).snd.snd.fst.snd.fst))>IntKind.i64.wrap (IntKind.i64.wrap ((x.2.snd.fst.getD (x.fst.getD (IntKind.i64.wrap (x.2.fst-1)).toNat
 0).toNat (0,0,(0,0,()),())).snd.snd.fst.fst*(x.2.snd.fst.getD (x.fst.getD (IntKind.i64.wrap (x.2.fst-1)).toNat 0).toNat (0,0,(0,0,()),())).snd.snd.fst.fst) +
 IntKind.i64.wrap ((x.2.snd.fst.getD (x.fst.getD (IntKind.i64.wrap (x.2.fst-1)).toNat 0).toNat (0,0,(0,0,()),())).snd.snd.fst.snd.fst*(x.2.snd.fst.getD (x.fst.getD
 (IntKind.i64.wrap (x.2.fst-1)).toNat 0).toNat (0,0,(0,0,()),())).snd.snd.fst.snd.fst))) then some (LRes.brk 2 (x.fst,x.2.fst,x.2.snd.fst,PUnit.unit)) else some (LRes.brk 2
 (x.fst,x.2.fst,x.2.snd.fst,PUnit.unit)) else none else none else none else none else some (LRes.brk 2 (x.fst,x.2.fst,x.2.snd.fst,PUnit.unit))) (x.fst,x.2.fst,x.2.snd.fst,
 PUnit.unit)) fun (id:Nat) (y:List Int × Int × List (Int × Int × (Int × Int × PUnit) × PUnit) × PUnit)=>if id=2 then some (LRes.cont (y.fst,IntKind.i64.wrap (x.2.fst+1),
 y.2.snd.fst,PUnit.unit)) else none else some (LRes.brk 0 (x.fst,x.2.fst,x.2.snd.fst,PUnit.unit))) (y.snd.fst,IntKind.i64.wrap (y_1.fst+1),l,PUnit.unit)) fun (id:Nat) (y_2
 : List Int × Int × List (Int × Int × (Int × Int × PUnit) × PUnit) × PUnit)=>if id=0 then afterL (iterL N (fun (x:Int × Int × Int × PUnit)=>bif decide (x.snd.snd.fst <
 (↑y.snd.fst.length:Int)) then afterL (iterL N (fun (x:Int × Int × PUnit)=>bif decide (x.snd.fst≤(↑y.snd.fst.length:Int)) then none else some (LRes.brk 4 (x.fst,x.snd.fst,
 PUnit.unit))) (0,IntKind.i64.wrap (2*x.snd.snd.fst),PUnit.unit)) fun (id:Nat) (y_3:Int × Int × PUnit)=>if id=4 then bif decide (IntKind.i64.wrap (y_3.fst +
 x.snd.snd.fst)<(↑y.snd.fst.length:Int)) then none else some (LRes.cont (y_3.fst,y_3.snd.fst,IntKind.i64.wrap (x.snd.snd.fst*2),PUnit.unit)) else none else some (LRes.brk 2
 (x.fst,x.snd.fst,x.snd.snd.fst,PUnit.unit))) (y_1.fst,y_1.snd.fst,20,PUnit.unit)) fun (id:Nat) (y:Int × Int × Int × PUnit)=>if id=2 then k (AOut.ret (AVal.ro (Sh.int
 IntKind.i64) y_2.fst)) else none else none else none else none:=by kernel_rfl
theorem iter_brk {σ α:Type} {f:σ→Option (LRes σ α)} {K:Nat→σ→Option α} {x y:σ} {b:Nat} (h:f x=some (.brk b y)) {N:Nat} (hN:0<N):afterL (iterL N f x) K=K b y:=by
 cases N with
 |zero=>omega
 |succ N=>simp only[iterL,h]; rfl
def qsW (l:List SnI) (i:Int):Int:=IntKind.i64.wrap (IntKind.i64.wrap ((l.getD i.toNat snD).x*(l.getD i.toNat snD).x)+IntKind.i64.wrap ((l.getD i.toNat snD).y*(l.getD i.toNat snD).y))
abbrev QnI:=List Int × Int × List SnI × Unit
def qnA {α:Type} (l:List SnI) (x:Int × List Int × Unit):Option (LRes (Int × List Int × Unit) α):=
 bif decide (x.1<(l.length:Int)) then
  if 0≤x.1∧x.1<(l.length:Int) then
   bif qspB (l.getD x.1.toNat snD).x (l.getD x.1.toNat snD).y then
    bif qzn (l.getD x.1.toNat snD).x (l.getD x.1.toNat snD).y==2 then
     if (x.2.1.length+[x.1].length)*8≤room then some (.cont (IntKind.i64.wrap (x.1+1),x.2.1++[x.1],())) else none
    else some (.cont (IntKind.i64.wrap (x.1+1),x.2.1,()))
   else none
  else none
 else some (.brk 0 (x.1,x.2.1,()))
def qnI {α:Type} (a0:Int) (x:QnI):Option (LRes QnI α):=
 bif decide (x.2.1>a0) then
  if 0≤x.2.1∧x.2.1<(x.1.length:Int) then
   if 0≤IntKind.i64.wrap (x.2.1-1)∧IntKind.i64.wrap (x.2.1-1)<(x.1.length:Int) then
    if 0≤x.1.getD x.2.1.toNat 0∧x.1.getD x.2.1.toNat 0<(x.2.2.1.length:Int) then
     if 0≤x.1.getD (IntKind.i64.wrap (x.2.1-1)).toNat 0∧x.1.getD (IntKind.i64.wrap (x.2.1-1)).toNat 0<(x.2.2.1.length:Int) then
      bif decide (qsW x.2.2.1 (x.1.getD x.2.1.toNat 0)<qsW x.2.2.1 (x.1.getD (IntKind.i64.wrap (x.2.1-1)).toNat 0)) then
       if 0≤IntKind.i64.wrap (x.2.1-1)∧IntKind.i64.wrap (x.2.1-1)<(x.1.length:Int) then
        if 0≤x.2.1∧x.2.1<(x.1.length:Int) then
         if 0≤x.2.1∧x.2.1<(x.1.length:Int) then
          if 0≤IntKind.i64.wrap (x.2.1-1)∧IntKind.i64.wrap (x.2.1-1)<((x.1.set x.2.1.toNat (x.1.getD (IntKind.i64.wrap (x.2.1-1)).toNat 0)).length:Int) then
           some (.cont ((x.1.set x.2.1.toNat (x.1.getD (IntKind.i64.wrap (x.2.1-1)).toNat 0)).set (IntKind.i64.wrap (x.2.1-1)).toNat (x.1.getD x.2.1.toNat 0),IntKind.i64.wrap (x.2.1-1),x.2.2.1,()))
          else none
         else none
        else none
       else none
      else bif decide (qsW x.2.2.1 (x.1.getD x.2.1.toNat 0)>qsW x.2.2.1 (x.1.getD (IntKind.i64.wrap (x.2.1-1)).toNat 0)) then some (.brk 2 (x.1,x.2.1,x.2.2.1,())) else some (.brk 2 (x.1,x.2.1,x.2.2.1,()))
     else none
    else none
   else none
  else none
 else some (.brk 2 (x.1,x.2.1,x.2.2.1,()))
def qnO {α:Type} (N:Nat) (a0 n:Int) (x:QnI):Option (LRes QnI α):=
 bif decide (x.2.1<n) then
  afterL (iterL N (qnI a0) (x.1,x.2.1,x.2.2.1,())) fun id y=>if id=2 then some (.cont (y.1,IntKind.i64.wrap (x.2.1+1),y.2.2.1,())) else none
 else some (.brk 0 (x.1,x.2.1,x.2.2.1,()))
def qIx (l:List SnI) (V:List Int):Prop:=∀x∈V,0≤x∧x<(l.length:Int)
theorem qix_get {l:List SnI} {V:List Int} (h:qIx l V) {p:Nat} (hp:p<V.length):0≤V.getD p 0∧V.getD p 0<(l.length:Int):=by
 refine h _ ?_
 rw[List.getD_eq_getElem?_getD,List.getElem?_eq_getElem hp]; exact List.getElem_mem _
theorem qni_run {α:Type} (l:List SnI) (c:Int):∀(j:Nat) (V:List Int) (N:Nat),j<V.length→V.length≤16→qIx l V→j<N→afterL (iterL N (qnI 0) (V,(j:Int),l,())) (fun id y=>if id=2 then (some (.cont (y.1,c,y.2.2.1,())):Option (LRes QnI α)) else none)=some (.cont (qin (qsW l) j V,c,l,()))
 |0,V,N,_,_,_,hN=>by
  refine (iter_brk (b:=2) (y:=(V,0,l,())) ?_ hN).trans rfl
  unfold qnI
  rw[show decide ((((0:Nat):Int),l,()).1>0)=false from decide_eq_false (by show ¬((0:Nat):Int)>0; omega)]
  rfl
 |j+1,V,0,_,_,_,hN=>absurd hN (Nat.not_lt_zero _)
 |j+1,V,N+1,hj,hl,hx,hN=>by
  have w1:IntKind.i64.wrap (((j+1:Nat):Int)-1)=(j:Int):=by rw[i64_in _ (by omega)]; omega
  have g1:=qix_get hx hj
  have g2:=qix_get hx (show j<V.length by omega)
  have hf:qnI (α:=LRes QnI α) 0 (V,((j+1:Nat):Int),l,())=bif decide (qsW l (V.getD (j+1) 0)<qsW l (V.getD j 0)) then some (.cont ((V.set (j+1) (V.getD j 0)).set j (V.getD (j+1) 0),(j:Int),l,())) else some (.brk 2 (V,((j+1:Nat):Int),l,())):=by
   unfold qnI
   simp only[w1,Int.toNat_natCast,List.length_set]
   rw[decide_eq_true (show ((j+1:Nat):Int)>0 by omega),cond_true,if_pos ⟨by omega,by omega⟩,if_pos ⟨by omega,by omega⟩,if_pos g1,if_pos g2]
   cases decide (qsW l (V.getD (j+1) 0)<qsW l (V.getD j 0))
   ·rw[cond_false,cond_false]
    cases decide (qsW l (V.getD (j+1) 0)>qsW l (V.getD j 0))<;>rfl
   ·rw[cond_true,cond_true,if_pos ⟨by omega,by omega⟩,if_pos ⟨by omega,by omega⟩,if_pos ⟨by omega,by omega⟩,if_pos ⟨by omega,by omega⟩]
  rw[qin]
  cases hc:decide (qsW l (V.getD (j+1) 0)<qsW l (V.getD j 0))
  ·rw[hc] at hf
   exact iter_brk (b:=2) (y:=(V,((j+1:Nat):Int),l,())) hf (by omega)
  ·rw[hc] at hf
   have pm:=swp_perm (V:=V) (i:=j+1) (j:=j) hj (by omega)
   have ih:=qni_run (α:=α) l c j ((V.set (j+1) (V.getD j 0)).set j (V.getD (j+1) 0)) N (by rw[pm.length_eq]; omega) (by rw[pm.length_eq]; exact hl) (fun x hm=>hx x (pm.mem_iff.1 hm)) (by omega)
   refine Eq.trans ?_ ih
   conv=>lhs; unfold iterL
   rw[hf]
   rfl
theorem qis_ix {l:List SnI} {V:List Int} (hx:qIx l V) {i:Nat} (h:i<V.length):qIx l (qis (qsW l) i V):=fun x hm=>hx x ((qis_perm _ i V h).mem_iff.1 hm)
theorem qno_run {α:Type} {l:List SnI} {V:List Int} (hl:V.length≤16) (hx:qIx l V) (K:Nat→QnI→Option α):∃j,afterL (iterL 40 (qnO 40 0 (V.length:Int)) (V,1,l,())) K=K 0 (qst (qsW l) V,j,l,()):=by
 refine⟨((V.length-1+1:Nat):Int),?_⟩
 refine count_loop (f:=qnO 40 0 (V.length:Int)) (fun i:Nat=>(qis (qsW l) i V,((i+1:Nat):Int),l,())) (V.length-1) (fun i hi=>?_) ?_ (by omega)
 ·have hl':=qis_len (qsW l) i V (by omega)
  have e:=qni_run (α:=α) l (IntKind.i64.wrap (((i+1:Nat):Int)+1)) (i+1) (qis (qsW l) i V) 40 (by omega) (by omega) (qis_ix hx (by omega)) (by omega)
  unfold qnO
  simp only[]
  rw[decide_eq_true (show ((i+1:Nat):Int)<(V.length:Int) by omega),cond_true]
  refine e.trans ?_
  rw[wrap_small (n:=i+1+1) (by have:maxLen=9223372036854775807:=rfl; omega) |> (fun h=>(show IntKind.i64.wrap (((i+1:Nat):Int)+1)=((i+1+1:Nat):Int) from h))]
  rfl
 ·unfold qnO
  simp only[]
  rw[decide_eq_false (show ¬((V.length-1+1:Nat):Int)<(V.length:Int) by omega)]
  rfl
theorem qna_run {α:Type} {l:List SnI} (hl:l.length≤16) (hs:∀k,k<l.length→qspB (l.getD k snD).x (l.getD k snD).y=true) (K:Nat→Int × List Int × Unit→Option α):afterL (iterL 40 (qnA l) (0,[],())) K=K 0 ((l.length:Int),qhL l l.length,()):=by
 have hroom:room≥10000:=by decide
 have hmx:maxLen=9223372036854775807:=rfl
 refine count_loop (f:=qnA l) (fun i:Nat=>((i:Int),qhL l i,())) l.length (fun i hi=>?_) ?_ (by omega)
 ·have:=qhL_len l i
  unfold qnA
  simp only[lt_len hi,cond_true,in_len hi,if_pos,and_self,Int.toNat_natCast,wrap_next hi (by omega),hs i hi,List.length_singleton]
  rw[if_pos (by omega),qhL]
  show (bif qH l i then _ else _)=_
  cases qH l i<;>rfl
 ·unfold qnA
  simp only[not_lt_len,cond_false]
theorem qin_congr {S S':Int→Int}:∀j (V:List Int),j<V.length→(∀x∈V,S x=S' x)→qin S j V=qin S' j V
 |0,V,_,_=>rfl
 |j+1,V,hj,h=>by
  have m:∀p,p<V.length→S (V.getD p 0)=S' (V.getD p 0):=fun p hp=>h _ (by
   rw[List.getD_eq_getElem?_getD,List.getElem?_eq_getElem hp]; exact List.getElem_mem _)
  have pm:=swp_perm (V:=V) (i:=j+1) (j:=j) hj (by omega)
  rw[qin,qin,m (j+1) hj,m j (by omega),qin_congr j _ (by rw[pm.length_eq]; omega) fun x hx=>h x (pm.mem_iff.1 hx)]
theorem qis_congr {S S':Int→Int}:∀i (V:List Int),i<V.length→(∀x∈V,S x=S' x)→qis S i V=qis S' i V
 |0,V,_,_=>rfl
 |i+1,V,hi,h=>by
  rw[qis,qis,qis_congr i V (by omega) h]
  exact qin_congr _ _ (by rw[qis_len S' i V (by omega)]; exact hi) fun x hx=>h x ((qis_perm S' i V (by omega)).mem_iff.1 hx)
theorem qst_congr {S S':Int→Int} (V:List Int) (h:∀x∈V,S x=S' x):qst S V=qst S' V:=by
 unfold qst
 rcases Nat.eq_zero_or_pos V.length with e|e
 ·rw[e]; rfl
 ·exact qis_congr _ V (by omega) h
theorem qsw_is (l:List SnI) {k:Nat} (h:qH l k=true):qsW l (k:Int)=qS l (k:Int):=by
 unfold qsW qS
 rw[Int.toNat_natCast]
 unfold qH at h
 generalize (l.getD k snD).x=x at *
 generalize (l.getD k snD).y=y at *
 have hz:=qsz_in x
 have hx:-155648000≤x∧x≤155648000:=by
  unfold qzn at h
  by_cases h1:qsz x+9502720≥155648000
  ·rw[if_pos h1] at h; exact absurd h (by decide)
  ·omega
 have hy:-419495936≤y∧y≤419495936:=by
  unfold qzn at h
  by_cases h1:qsz x+9502720≥155648000
  ·rw[if_pos h1] at h; exact absurd h (by decide)
  ·rw[if_neg h1] at h
   by_cases h2:y-9502720>119865344
   ·rw[if_pos h2] at h; exact absurd h (by decide)
   ·rw[if_neg h2] at h
    by_cases h3:y-9502720≤-419495936
    ·rw[if_pos h3] at h; exact absurd h (by decide)
    ·omega
 have s1:=qsq_in hx
 have s2:=qsq_in hy
 rw[qi64 (x*x) (by omega),qi64 (y*y) (by omega),qi64 (x*x+y*y) (by omega)]
theorem qix_hL (l:List SnI):qIx l (qhL l l.length):=fun x hx=>by
 obtain⟨k,hk,_,rfl⟩:=(qhL_mem l x _).1 hx
 omega
theorem qsw_st (l:List SnI):qst (qsW l) (qhL l l.length)=qnr l:=qst_congr _ fun x hx=>by
 obtain⟨k,hk,hh,rfl⟩:=(qhL_mem l x _).1 hx
 exact qsw_is l hh
def qneB (l:List SnI):Bool:=decide (l.length≤16)&&l.all fun s=>qspB s.x s.y
noncomputable def qneS:Fsp:=fun _ args k=>match args with
 | [.ro (.recd (.cons (.int .i64) (.cons (.int .i64) (.cons (.recd (.cons (.int .i64) (.cons (.int .i64) .nil))) .nil)))) l]=>bif qneB l then k (.ret (.ro (.int .i64) (qnr l))) else none
 |_=>none
theorem fsSor_ok:FsOk fsSor:=fs_cons noS_ok fsShe1_ok
theorem qne_at {l:List SnI} (hB:qneB l=true):l.length≤16∧∀k,k<l.length→qspB (l.getD k snD).x (l.getD k snD).y=true:=by
 unfold qneB at hB
 rw[Bool.and_eq_true,decide_eq_true_eq] at hB
 refine⟨hB.1,fun k hk=>List.all_eq_true.1 hB.2 (l.getD k snD) ?_⟩
 rw[List.getD_eq_getElem?_getD,List.getElem?_eq_getElem hk]; exact List.getElem_mem _
theorem qne_eq (l:List SnI) (hB:qneB l=true):evFn real tab ((twY fsSor spM0).env real tab 40 30) 40 Tryz.f17 AOut [.ro (.recd (.cons (.int .i64) (.cons (.int .i64) (.cons (.recd (.cons (.int .i64) (.cons (.int .i64) .nil))) .nil)))) l] some=some (.ret (.ro (.int .i64) (qnr l))):=by
 obtain⟨hl,hs⟩:=qne_at hB
 refine (qne_text 40 0 AOut l some).trans ?_
 have hv:=qhL_len l l.length
 refine (qna_run hl hs _).trans ?_
 rw[if_pos rfl]
 refine (iter_brk (b:=0) (y:=(0,20,())) ?_ (by decide)).trans ?_
 ·show (bif decide ((20:Int)≤((qhL l l.length).length:Int)) then _ else _)=_
  rw[decide_eq_false (by omega)]
  rfl
 rw[if_pos rfl]
 obtain⟨j,e⟩:=qno_run (α:=AOut) (l:=l) (V:=qhL l l.length) (by omega) (qix_hL l) _
 refine e.trans ?_
 rw[if_pos rfl]
 refine (iter_brk (b:=2) (y:=(0,20,20,())) ?_ (by decide)).trans ?_
 ·show (bif decide ((20:Int)<((qhL l l.length).length:Int)) then _ else _)=_
  rw[decide_eq_false (by omega)]
  rfl
 rw[if_pos rfl]
 exact congrArg (fun V=>some (AOut.ret (AVal.ro (.int .i64) V))) (qsw_st l)
theorem qneS_ok:FspOk Tryz.prog 17 qneS:=tower_Y fsSor_ok spM0_ok ⟨Tryz.func17,fun _ _=>by kernel_rfl⟩ (by intro α args k; unfold qneS; split<;>simp only[cond_bind,Option.bind_some,Option.bind_none]) fun args out hSm hEq=>by
 unfold qneS at hEq
 split at hEq
 ·rename_i l
  cases hB:qneB l
  ·rw[hB] at hEq; cases hEq
  rw[hB,cond_true] at hEq
  exact⟨40,30,(qne_eq l hB).trans hEq⟩
 ·cases hEq
/-! Check. -/
noncomputable def fsShe2:FuncId→Option Fsp:=fun g=>if g=48 then some qovS else fsShe1 g
theorem fsShe2_ok:FsOk fsShe2:=fs_cons qovS_ok fsShe1_ok
def qskF {α:Type} (l:List SnI) (R:Option α) (x:Int × NmM × Unit):Option (LRes (Int × NmM × Unit) α):=
 bif decide (x.1<(l.length:Int)) then
  if 0≤x.1∧x.1<(l.length:Int) then
   bif decide (0≤(l.getD x.1.toNat snD).1) then
    bif !decide ((l.getD x.1.toNat snD).1≤1) then finL R
    else bif decide (0≤(l.getD x.1.toNat snD).2.1) then
     bif !decide ((l.getD x.1.toNat snD).2.1≤7) then finL R
     else bif !qspB (l.getD x.1.toNat snD).x (l.getD x.1.toNat snD).y then finL R
     else bif qspB (l.getD x.1.toNat snD).x (l.getD x.1.toNat snD).y then
      bif qzn (l.getD x.1.toNat snD).x (l.getD x.1.toNat snD).y==0 then finL R
      else bif (mpFind nmSh .bool ((l.getD x.1.toNat snD).1,(l.getD x.1.toNat snD).2.1,()) x.2.1).getD false then finL R
      else some (.cont (IntKind.i64.wrap (x.1+1),mpPut nmSh .bool ((l.getD x.1.toNat snD).1,(l.getD x.1.toNat snD).2.1,()) true x.2.1,()))
     else none
    else finL R
   else finL R
  else none
 else some (.brk 0 (x.1,x.2.1,()))
set_option maxRecDepth 100000 in
theorem qsk_text (N n0:Nat) (α:Type) (l:List SnI) (k:AOut→Option α):evFn real tab ((twY fsShe2 spM0).env real tab N (n0+30)) N Tryz.f16 α [.ro (.recd (.cons (.int .i64) (.cons (.int .i64) (.cons (.recd (.cons (.int .i64) (.cons (.int .i64) .nil))) .nil)))) l] k =
 bif decide ((l.length:Int)>16) then k (b1 false) else afterL (iterL N (qskF l (k (b1 false))) (0,[],())) fun id _=>if id=0 then k (b1 (decide (qvX l<0))) else none:=by
 kernel_rfl
def qkV (s:SnI):Bool:=((decide (0≤s.1)&&decide (s.1≤1))&&(decide (0≤s.2.1)&&decide (s.2.1≤7)))&&(qspB s.x s.y&&!(qzn s.x s.y==0))
def qkBad (l:List SnI) (i:Nat):Bool:=!qkV (l.getD i snD) || (List.range i).any fun k=>snN (l.getD k snD) (l.getD i snD)
def qskB (l:List SnI):Bool:=decide (l.length≤16)&&(!((List.range l.length).any (qkBad l))&&decide (qvX l<0))
theorem qskF_eq {α:Type} (l:List SnI) (R:Option α) {i:Nat} (hi:i<l.length) (hl:l.length≤maxLen):qskF l R ((i:Int),nmM l i,())=bif qkBad l i then finL R else some (.cont (((i+1:Nat):Int),nmM l (i+1),())):=by
 unfold qskF qkBad qkV
 simp only[lt_len hi,cond_true,in_len hi,if_pos,and_self,decide_true,Int.toNat_natCast,wrap_next hi hl,nmM_find l (l.getD i snD) i]
 cases decide (0≤(l.getD i snD).1)
 ·rfl
 cases decide ((l.getD i snD).1≤1)
 ·rfl
 cases decide (0≤(l.getD i snD).2.1)
 ·rfl
 cases decide ((l.getD i snD).2.1≤7)
 ·rfl
 cases qspB (l.getD i snD).x (l.getD i snD).y
 ·rfl
 cases qzn (l.getD i snD).x (l.getD i snD).y==0<;>rfl
theorem qsk_plain {α:Type} (l:List SnI) (k:AOut→Option α):(bif decide ((l.length:Int)>16) then k (b1 false) else afterL (iterL 20 (qskF l (k (b1 false))) (0,[],())) fun id _=>if id=0 then k (b1 (decide (qvX l<0))) else none)=k (b1 (qskB l)):=by
 unfold qskB
 by_cases h:l.length≤16
 ·have hmx:l.length≤maxLen:=by have:maxLen=9223372036854775807:=rfl; omega
  rw[decide_eq_false (show ¬(l.length:Int)>16 by omega),cond_false,decide_eq_true h,Bool.true_and]
  refine (any_loop' (f:=qskF l (k (b1 false))) (fun i:Nat=>((i:Int),nmM l i,())) l.length (qkBad l) (k (b1 false)) (fun i hi=>qskF_eq l _ hi hmx) (y:=((l.length:Int),nmM l l.length,())) (b:=0) ?_ (by omega)).trans ?_
  ·unfold qskF
   simp only[not_lt_len,cond_false]
  ·cases (List.range l.length).any (qkBad l)<;>rfl
 ·rw[decide_eq_true (show (l.length:Int)>16 by omega),decide_eq_false h]; rfl
noncomputable def qskS:Fsp:=fun _ args k=>match args with
 | [.ro (.recd (.cons (.int .i64) (.cons (.int .i64) (.cons (.recd (.cons (.int .i64) (.cons (.int .i64) .nil))) .nil)))) l]=>k (b1 (qskB l))
 |_=>none
theorem qskS_ok:FspOk Tryz.prog 16 qskS:=tower_Y fsShe2_ok spM0_ok ⟨Tryz.func16,fun _ _=>by kernel_rfl⟩ (by intro α args k; unfold qskS; split<;>rfl) fun args out hSm hEq=>by
 unfold qskS at hEq
 split at hEq
 ·rename_i l
  exact⟨20,30,((qsk_text 20 0 AOut l some).trans (qsk_plain l some)).trans hEq⟩
 ·cases hEq
theorem qsk_at {l:List SnI} (h:qskB l=true):l.length≤16∧∀k,k<l.length→qspB (l.getD k snD).x (l.getD k snD).y=true∧qzn (l.getD k snD).x (l.getD k snD).y≠0:=by
 unfold qskB at h
 simp only[Bool.and_eq_true,decide_eq_true_eq,Bool.not_eq_true',List.any_eq_false] at h
 refine⟨h.1,fun k hk=>?_⟩
 have:=h.2.1 k (List.mem_range.2 hk)
 unfold qkBad qkV at this
 rw[Bool.or_eq_true,not_or] at this
 have h2:=this.1
 simp only[Bool.not_eq_true',Bool.not_eq_false,Bool.and_eq_true,beq_eq_false_iff_ne] at h2
 exact h2.2
noncomputable def fsCnt:FuncId→Option Fsp:=fun g=>
 if g=16 then some qskS else
 if g=17 then some qneS else
 fsShe0 g
theorem fsCnt_ok:FsOk fsCnt:=
 fs_cons qskS_ok <|
 fs_cons qneS_ok <|
 fsShe0_ok
abbrev QcI:=Int × List SnI × Int × Unit
def qctI {α:Type} (l:List SnI) (V:List Int) (m:Int) (x:Int × Unit):Option (LRes (Int × Unit) α):=
 bif decide (x.1<m) then
  if 0≤x.1∧x.1<(V.length:Int) then
   if 0≤V.getD x.1.toNat 0∧V.getD x.1.toNat 0<(l.length:Int) then
    bif decide (qsW l (V.getD x.1.toNat 0)<qsW l (V.getD m.toNat 0)) then some (.cont (IntKind.i64.wrap (x.1+1),())) else some (.brk 0 (x.1,()))
   else none
  else none
 else some (.brk 0 (x.1,()))
def qctF {α:Type} (N:Nat) (V:List Int) (k:AOut→Option α) (x:QcI):Option (LRes QcI α):=
 bif decide (x.1<(V.length:Int)) then
  if 0≤x.1∧x.1<(V.length:Int) then
   if 0≤V.getD x.1.toNat 0∧V.getD x.1.toNat 0<(x.2.1.length:Int) then
    bif (x.2.1.getD (V.getD x.1.toNat 0).toNat snD).1 != x.2.2.1 then
     finL (bif decide (x.1<0) then k (.ret (.tup [.int .i64 x.2.2.1,.int .i64 (V.length:Int),.int .i64 0])) else
      if 0≤x.1∧x.1<(V.length:Int) then
       if 0≤V.getD x.1.toNat 0∧V.getD x.1.toNat 0<(x.2.1.length:Int) then
        afterL (iterL N (qctI x.2.1 V x.1) (0,())) fun id y=>if id=0 then
         bif y.1==0 then k (.ret (.tup [.int .i64 (-1),.int .i64 0,.int .i64 0])) else k (.ret (.tup [.int .i64 x.2.2.1,.int .i64 y.1,.int .i64 0]))
        else none
       else none
      else none)
    else some (.cont (IntKind.i64.wrap (x.1+1),x.2.1,x.2.2.1,()))
   else none
  else none
 else some (.brk 0 (x.1,x.2.1,x.2.2.1,()))
def qctT {α:Type} (N:Nat) (l:List SnI) (V:List Int) (k:AOut→Option α):Option α:=
 bif (V.length:Int)==0 then k (.ret (.tup [.int .i64 (-1),.int .i64 0,.int .i64 0])) else
  if 0≤(0:Int)∧(0:Int)<(V.length:Int) then
   if 0≤V.getD (Int.toNat 0) 0∧V.getD (Int.toNat 0) 0<(l.length:Int) then
    afterL (iterL N (qctF N V k) (0,l,(l.getD (V.getD (Int.toNat 0) 0).toNat snD).1,())) fun id y=>if id=0 then k (.ret (.tup [.int .i64 y.2.2.1,.int .i64 (V.length:Int),.int .i64 0])) else none
   else none
  else none
set_option maxRecDepth 100000 in
theorem qcn_text (N n0:Nat) (α:Type) (l:List SnI) (k:AOut→Option α):evFn real tab ((twY fsCnt spM0).env real tab N (n0+30)) N Tryz.f7 α [.ro (.recd (.cons (.int .i64) (.cons (.int .i64) (.cons (.recd (.cons (.int .i64) (.cons (.int .i64) .nil))) .nil)))) l] k =
 bif !qskB l then k (.ret (.tup [.int .i64 0,.int .i64 0,.int .i64 2])) else bif qneB l then qctT N l (qnr l) k else none:=by kernel_rfl
theorem qpn_spec (l:List SnI) (V:List Int) (m:Nat):qpn l V m≤m∧(∀p,p<qpn l V m→decide (qS l (V.getD p 0)<qS l (V.getD m 0))=true)∧(qpn l V m<m→decide (qS l (V.getD (qpn l V m) 0)<qS l (V.getD m 0))=false):=by
 unfold qpn
 cases hf:(List.range m).find? fun p=>!decide (qS l (V.getD p 0)<qS l (V.getD m 0)) with
 |none=>
  refine⟨Nat.le_refl _,fun p hp=>?_,fun a=>absurd a (Nat.lt_irrefl _)⟩
  have:=List.find?_eq_none.1 hf p (List.mem_range.2 hp)
  rw[Bool.not_eq_true',Bool.not_eq_false] at this
  exact this
 |some q=>
  refine⟨Nat.le_of_lt (List.mem_range.1 (List.mem_of_find?_eq_some hf)),fun p hp=>?_,fun _=>?_⟩
  ·have:=(List.find?_range_eq_some.1 hf).2.2 p hp
   rw[Bool.not_eq_true',Bool.not_eq_false'] at this
   exact this
  ·have:=List.find?_some hf
   rw[Bool.not_eq_true'] at this
   exact this
section
variable {l:List SnI} {V:List Int} (hx:qIx l V) (hl:V.length≤16) (hW:∀p,p<V.length→qsW l (V.getD p 0)=qS l (V.getD p 0))
include hx hl hW
theorem qct_in' {α:Type} {m:Nat} (hm:m<V.length) (K:Nat→Int × Unit→Option α):afterL (iterL 40 (qctI l V (m:Int)) (0,())) K=K 0 ((qpn l V m:Int),()):=by
 have hmx:maxLen=9223372036854775807:=rfl
 obtain⟨h1,h2,h3⟩:=qpn_spec l V m
 refine count_loop (f:=qctI l V (m:Int)) (fun i:Nat=>((i:Int),())) (qpn l V m) (fun i hi=>?_) ?_ (by omega)
 ·have a:=h2 i hi
  unfold qctI
  simp only[lt_len (show i<m by omega),cond_true,in_len (show i<V.length by omega),if_pos,and_self,Int.toNat_natCast,hW i (by omega),hW m hm,a,wrap_next (show i<m by omega) (by omega)]
  rw[if_pos (qix_get hx (by omega))]
 ·unfold qctI
  rcases Nat.lt_or_ge (qpn l V m) m with c|c
  ·have a:=h3 c
   simp only[lt_len c,cond_true,in_len (show qpn l V m<V.length by omega),if_pos,and_self,Int.toNat_natCast,hW _ (show qpn l V m<V.length by omega),hW m hm,a,cond_false]
   rw[if_pos (qix_get hx (by omega))]
  ·have e:qpn l V m=m:=by omega
   rw[e]
   simp only[not_lt_len,cond_false]
theorem qct_run {α:Type} (k:AOut→Option α):qctT 40 l V k=k (.ret (.tup [.int .i64 (qcT l V),.int .i64 (qcP l V),.int .i64 0])):=by
 have hmx:maxLen=9223372036854775807:=rfl
 unfold qctT qcT qcP
 by_cases h0:V.length=0
 ·rw[h0]; rfl
 rw[beq_eq_false_iff_ne.2 h0,beq_eq_false_iff_ne.2 (show (V.length:Int)≠0 by omega),cond_false,cond_false,cond_false,if_pos ⟨by omega,by omega⟩]
 have g0:=qix_get hx (show 0<V.length by omega)
 rw[show Int.toNat 0=0 from rfl,if_pos g0]
 refine (find_loop' (f:=qctF 40 V k) (fun i:Nat=>((i:Int),l,qtm l (V.getD 0 0),())) V.length (fun p=>!(qtm l (V.getD p 0)==qtm l (V.getD 0 0))) (b:=0) (y:=((V.length:Int),l,qtm l (V.getD 0 0),())) (fun m=>bif (qpn l V m:Int)==0 then k (.ret (.tup [.int .i64 (-1),.int .i64 0,.int .i64 0])) else k (.ret (.tup [.int .i64 (qtm l (V.getD 0 0)),.int .i64 (qpn l V m:Int),.int .i64 0]))) (fun i hi=>?_) ?_ (by omega)).trans ?_
 ·have gi:=qix_get hx hi
  have e:=qct_in' hx hl hW hi (fun id y=>if id=0 then bif y.1==0 then k (.ret (.tup [.int .i64 (-1),.int .i64 0,.int .i64 0])) else k (.ret (.tup [.int .i64 (qtm l (V.getD 0 0)),.int .i64 y.1,.int .i64 0])) else none)
  unfold qctF
  simp only[lt_len hi,cond_true,in_len hi,if_pos,and_self,Int.toNat_natCast,wrap_next hi (show V.length≤maxLen by omega),decide_eq_false (show ¬(i:Int)<0 by omega),cond_false]
  rw[if_pos gi,if_pos gi,e,if_pos rfl]
  rfl
 ·unfold qctF
  simp only[not_lt_len,cond_false]
 ·unfold qlm
  cases (List.range V.length).find? fun p=>!(qtm l (V.getD p 0)==qtm l (V.getD 0 0)) with
  |none=>rfl
  |some m=>
   show (bif (qpn l V m:Int)==0 then _ else _)=k (.ret (.tup [.int .i64 (bif qpn l V m==0 then -1 else _),.int .i64 (qpn l V m:Int),.int .i64 0]))
   by_cases hp:qpn l V m=0
   ·rw[hp]; rfl
   ·rw[beq_eq_false_iff_ne.2 hp,beq_eq_false_iff_ne.2 (show (qpn l V m:Int)≠0 by omega)]; rfl
end
theorem qnr_len (l:List SnI):(qnr l).length≤l.length:=by
 have:=(qst_perm (qS l) (qhL l l.length)).length_eq
 have:=qhL_len l l.length
 show (qst (qS l) (qhL l l.length)).length≤_
 omega
theorem qnr_ix (l:List SnI):qIx l (qnr l):=fun x hx=>qix_hL l x ((qst_perm (qS l) (qhL l l.length)).mem_iff.1 hx)
theorem qnr_W (l:List SnI) {p:Nat} (hp:p<(qnr l).length):qsW l ((qnr l).getD p 0)=qS l ((qnr l).getD p 0):=by
 have hm:(qnr l).getD p 0∈qhL l l.length:=(qst_perm (qS l) (qhL l l.length)).mem_iff.1 (by
  show (qnr l).getD p 0∈qnr l
  rw[List.getD_eq_getElem?_getD,List.getElem?_eq_getElem hp]; exact List.getElem_mem _)
 obtain⟨k,_,hh,e⟩:=(qhL_mem l _ _).1 hm
 rw[e]; exact qsw_is l hh
def qnT (l:List SnI):Int:=bif qskB l then qcT l (qnr l) else 0
def qnP (l:List SnI):Int:=bif qskB l then qcP l (qnr l) else 0
def qnE (l:List SnI):Int:=bif qskB l then 0 else 2
noncomputable def qcnS:Fsp:=fun _ args k=>match args with
 | [.ro (.recd (.cons (.int .i64) (.cons (.int .i64) (.cons (.recd (.cons (.int .i64) (.cons (.int .i64) .nil))) .nil)))) l]=>k (.ret (.tup [.int .i64 (qnT l),.int .i64 (qnP l),.int .i64 (qnE l)]))
 |_=>none
theorem qcn_eq {α:Type} (l:List SnI) (k:AOut→Option α):(bif !qskB l then k (.ret (.tup [.int .i64 0,.int .i64 0,.int .i64 2])) else bif qneB l then qctT 40 l (qnr l) k else none)=k (.ret (.tup [.int .i64 (qnT l),.int .i64 (qnP l),.int .i64 (qnE l)])):=by
 unfold qnT qnP qnE
 cases hk:qskB l
 ·rfl
 ·obtain⟨h1,h2⟩:=qsk_at hk
  have hB:qneB l=true:=by
   unfold qneB
   rw[decide_eq_true h1,Bool.true_and,List.all_eq_true]
   intro s hs
   obtain⟨i,hi,e⟩:=List.mem_iff_getElem.1 hs
   have:=(h2 i hi).1
   rw[List.getD_eq_getElem?_getD,List.getElem?_eq_getElem hi,Option.getD_some,e] at this
   exact this
  rw[hB]
  exact qct_run (qnr_ix l) (by have:=qnr_len l; omega) (fun p hp=>qnr_W l hp) k
theorem qcnS_ok:FspOk Tryz.prog 7 qcnS:=tower_Y fsCnt_ok spM0_ok ⟨Tryz.func7,fun _ _=>by kernel_rfl⟩ (by intro α args k; unfold qcnS; split<;>rfl) fun args out hSm hEq=>by
 unfold qcnS at hEq
 split at hEq
 ·rename_i l
  exact⟨40,30,((qcn_text 40 0 AOut l some).trans (qcn_eq l some)).trans hEq⟩
 ·cases hEq
theorem qcn_in {l:List SnI} (h:snsB l=true) (he:qnE l=0):((qnT l,qnP l,()):ScI)∈xsc l:=by
 have hk:qskB l=true:=by
  unfold qnE at he
  cases hk:qskB l
  ·rw[hk] at he; exact absurd he (by decide)
  ·rfl
 unfold qnT qnP
 rw[hk]
 exact qct_in h fun k hk'=>((qsk_at hk).2 k hk').2
noncomputable def fsFin:FuncId→Option Fsp:=fun g=>
 if g=5 then some qsndS else
 if g=6 then some kafS else
 if g=8 then some knnS else
 if g=9 then some kvaS else
 if g=4 then some grtS else
 if g=7 then some qcnS else
 fsShe0 g
theorem fsFin_ok:FsOk fsFin:=
 fs_cons qsndS_ok <|
 fs_cons kafS_ok <|
 fs_cons knnS_ok <|
 fs_cons kvaS_ok <|
 fs_cons grtS_ok <|
 fs_cons qcnS_ok <|
 fsShe0_ok
section
variable {α:Type} (d:Int) (A B:List (List Int)) (e l t:Int) (L:List SnI)
noncomputable def fiK (q:Int) (k:AOut→Option α):Option α:=
 bif nnR e l t q==0 then bif rsE d A B (nnE e l t q) (nnL e l t q) (nnT e l t q)==0 then
  bif decide (aqL d A B e l t L≤vaL d A B (nnE e l t q) (nnL e l t q) (nnT e l t q)) then
   bif decide (vaH d A B (nnE e l t q) (nnL e l t q) (nnT e l t q)≤aqU d A B e l t L) then k (b1 true) else k (b1 false)
  else k (b1 false) else k (b1 false) else k (b1 false)
noncomputable def fiM (k:AOut→Option α):Option α:=
 bif decide ((L.length:Int)>16) then k (b1 true) else bif afE d A B e l t L != 0 then k (b1 true) else bif qnE L != 0 then k (b1 true) else
 bif qnT L != t then fiK d A B e l t L (IntKind.i64.wrap (0-qnP L)) k else fiK d A B e l t L (qnP L) k
end
set_option maxRecDepth 100000 in
theorem qfi_text (N n0:Nat) (α:Type) (d:Int) (A B:List (List Int)) (e l t:Int) (L:List SnI) (k:AOut→Option α):evFn real tab ((twY fsFin spM0).env real tab N (n0+30)) N Tryz.f3 α [.agg [.int .i64 d,.ro (.sl (.int .i64)) A,.ro (.sl (.int .i64)) B],.agg [.int .i64 e,.int .i64 l,.int .i64 t],.ro (.recd (.cons (.int .i64) (.cons (.int .i64) (.cons (.recd (.cons (.int .i64) (.cons (.int .i64) .nil))) .nil)))) L] k =
 bif grB A B then k (b1 true) else bif decide (e>3) then bif decide (e≤12) then k (b1 true) else fiM d A B e l t L k else fiM d A B e l t L k:=by kernel_rfl
theorem fiM_true {α:Type} (d:Int) (A B:List (List Int)) (e l t:Int) (L:List SnI) (k:AOut→Option α):fiM d A B e l t L k=k (b1 true):=by
 unfold fiM
 cases decide ((L.length:Int)>16)
 case true=>rfl
 cases ha:afE d A B e l t L != 0
 case true=>rfl
 cases hn:qnE L != 0
 case true=>rfl
 have ha0:afE d A B e l t L=0:=by simpa using ha
 have hn0:qnE L=0:=by simpa using hn
 have hB:afB d A B e l t L=true:=by
  unfold afE at ha0
  unfold afB
  revert ha0
  cases rsB d A B e l t<;>cases snsB L<;>cases e==0<;>decide
 have hs:snsB L=true:=by
  unfold afB at hB
  simp only[Bool.and_eq_true] at hB
  exact hB.2.1
 have hp:=qcn_in hs hn0
 have key:∀q,q=pfV t (qnT L,qnP L,())→fiK d A B e l t L q k=k (b1 true):=fun q hq=>by
  obtain⟨h1,h2,h3,h4⟩:=fin_core hB hp hq
  unfold fiK
  rw[h1,h2,decide_eq_true h3,decide_eq_true h4]; rfl
 rw[cond_false,cond_false,cond_false]
 cases hc:qnT L != t
 ·exact key _ (by unfold pfV; rw[hc]; rfl)
 ·exact key _ (by unfold pfV; rw[hc]; rfl)
def qfiF:List AVal→Option AOut
 | [.agg [.int .i64 _,.ro (.sl (.int .i64)) _,.ro (.sl (.int .i64)) _],.agg [.int .i64 _,.int .i64 _,.int .i64 _],.ro (.recd (.cons (.int .i64) (.cons (.int .i64) (.cons (.recd (.cons (.int .i64) (.cons (.int .i64) .nil))) .nil)))) _]=>some (b1 true)
 |_=>none
theorem qfi_true (d:Int) (A B:List (List Int)) (e l t:Int) (L:List SnI):evFn real tab ((twY fsFin spM0).env real tab 20 30) 20 Tryz.f3 AOut [.agg [.int .i64 d,.ro (.sl (.int .i64)) A,.ro (.sl (.int .i64)) B],.agg [.int .i64 e,.int .i64 l,.int .i64 t],.ro (.recd (.cons (.int .i64) (.cons (.int .i64) (.cons (.recd (.cons (.int .i64) (.cons (.int .i64) .nil))) .nil)))) L] some=some (b1 true):=by
 refine (qfi_text 20 0 AOut d A B e l t L some).trans ?_
 rw[fiM_true]
 cases grB A B<;>cases decide (e>3)<;>cases decide (e≤12)<;>rfl
theorem qfi_ok:FspOk Tryz.prog 3 (toFsp qfiF):=tower_Y fsFin_ok spM0_ok ⟨Tryz.func3,fun _ _=>by kernel_rfl⟩ (toFsp_nat _) fun args out hSm hq=>by
 replace hq:=toFsp_some hq
 unfold qfiF at hq
 split at hq
 ·rename_i d A B e l t L
  cases hq
  exact⟨20,30,qfi_true d A B e l t L⟩
 ·cases hq
end Go.Proofs.YtneedmplkodcjaaGreat
namespace Go.Proofs.YtneedmplkodcjaaGreat
def rvSh:Sh:=.recd (.cons (.int .i64) (.cons (.recd (.cons (.sl LsSh) (.cons (.sl LsSh) .nil))) .nil))
end Go.Proofs.YtneedmplkodcjaaGreat
