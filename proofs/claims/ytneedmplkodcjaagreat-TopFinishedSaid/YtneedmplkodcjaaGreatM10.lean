/- Parts of the proof, in build order. -/
import Derived.Test.YtneedmplkodcjaaGreatM9
import Derived.Maps.RangeRun
import Derived.Shelf.SlSortCmp.NoneTotal
import Derived.Test.YtneedmplkodcjaaGreatM7
import Derived.Test.YtneedmplkodcjaaGreatM8
namespace Go.Proofs.YtneedmplkodcjaaGreat
open Go.RowKit
open Go.ChangeMaps (setBlock)
noncomputable def sO8:Array Oper:=cdOps sR8
theorem sR8_eq:sR8=.region 8 sO8 false:=by kernel_rfl
set_option maxRecDepth 100000 in
theorem sc_o8' (N n0:Nat) (t n:Int) (xs:List ScI):evOps real tab ((twY fsM4 spM0).env real tab N n0) false sO8 sO8.toList ⟨aN [(9,.own 0),(10,.op 1 0)],[s38 xs,.box true [.int .i64 t,.int .i64 n]]⟩ pairE =
 if (xs.length+[(t,n,())].length)*16≤room then some (.normal,⟨aN [(9,.own 3),(10,.op 1 0),(28,.own 0),(29,scQ t n),(30,.own 2),(31,.own 3)],[.dead,.box true [.int .i64 t,.int .i64 n],s38 [(t,n,())],s38 (xs++[(t,n,())])]⟩) else none:=by kernel_rfl
theorem sc_o8 (N n0:Nat) (t n:Int) {xs:List ScI} (hx:xs.length≤1000):evOps real tab ((twY fsM4 spM0).env real tab N n0) false sO8 sO8.toList ⟨aN [(9,.own 0),(10,.op 1 0)],[s38 xs,.box true [.int .i64 t,.int .i64 n]]⟩ pairE =
 some (.normal,⟨aN [(9,.own 3),(10,.op 1 0),(28,.own 0),(29,scQ t n),(30,.own 2),(31,.own 3)],[.dead,.box true [.int .i64 t,.int .i64 n],s38 [(t,n,())],s38 (xs++[(t,n,())])]⟩):=by
 rw[sc_o8',if_pos (by simp only[room,List.length_cons,List.length_nil]; omega)]
theorem sO7_stay:∀(i:Nat) o,sO7[i]?=some o→o.dst≠some 23:=fun i o h=>by
 have:sO7.toList.all (fun o=>o.dst != some 23)=true:=by kernel_rfl
 have hm:o∈sO7.toList:=List.mem_of_getElem? (by rw[Array.getElem?_toList]; exact h)
 have:=List.all_eq_true.1 this o hm
 intro e; rw[e] at this; exact absurd this (by decide)
theorem sO8_stay:∀(i:Nat) o,sO8[i]?=some o→o.dst≠some 23:=fun i o h=>by
 have:sO8.toList.all (fun o=>o.dst != some 23)=true:=by kernel_rfl
 have hm:o∈sO8.toList:=List.mem_of_getElem? (by rw[Array.getElem?_toList]; exact h)
 have:=List.all_eq_true.1 this o hm
 intro e; rw[e] at this; exact absurd this (by decide)
def scDec (e:MapEntry):ScI:=match e.key with
 |.agg arr=>match arr.toList with
  | [.int _ a,.int _ b]=>(a,b,())
  |_=>(0,0,())
 |_=>(0,0,())
theorem nm_flat:∀x:nmSh.ty,∀c∈nmSh.cells x,c.flat0=true:=fun x c hc=>by
 have:nmSh.cells x=[.int .i64 x.1,.int .i64 x.2.1]:=rfl
 rw[this] at hc
 rcases List.mem_cons.1 hc with rfl|hc
 ·rfl
 ·rw[List.mem_singleton.1 hc]; rfl
theorem rd_flat:∀x:RdSh.ty,∀c∈RdSh.cells x,c.flat0=true:=fun x c hc=>by
 have:RdSh.cells x=[.int .i64 x.1,.int .i64 x.2.1,.int .i64 x.2.2.1]:=rfl
 rw[this] at hc
 rcases List.mem_cons.1 hc with rfl|hc
 ·rfl
 ·rcases List.mem_cons.1 hc with rfl|hc
  ·rfl
  ·rw[List.mem_singleton.1 hc]; rfl
theorem scDec_rep {h g w} {q:nmSh.ty} {e:MapEntry} (r:Rep h g w (nmSh.val q) e.key):scDec e=q∧e.key=.agg #[.int .i64 q.1,.int .i64 q.2.1]:=by
 have hv:nmSh.val q=.agg [.int .i64 q.1,.int .i64 q.2.1]:=rfl
 rw[hv] at r
 have hk:e.key=.agg #[.int .i64 q.1,.int .i64 q.2.1]:=by
  generalize e.key=k at r
  cases r with
  |agg _ arr hl hr=>
   obtain⟨L⟩:=arr
   match L,hl with
   | [x,y],_=>
     have h0:=hr 0 _ x rfl rfl
     have h1:=hr 1 _ y rfl rfl
     cases h0; cases h1; rfl
 refine⟨?_,hk⟩
 unfold scDec; rw[hk]; rfl
def LpI (K0:Nat→Prop) (g0:Gh) (w0:World) (r0 bm:Nat) (es:Array MapEntry) (clock:Nat) (ts:List MapEntry) (a:Act) (w:World):Prop:=
 ∃K g,Mid K0 g0 w0 [s38 (ts.map scDec)] (aN [(9,.own 0)]) a w K g∧a.tmps.getD 23 Go.undef=.pointer (some ⟨r0,0,none⟩)∧¬K r0∧¬g.M r0∧blockOf (g.ρ 0)≠some r0∧K bm∧r0<w.heap.size ∧
  w.heap[r0]?=some (.mapIter (some bm) clock (ts.map (·.born)).toArray clock)∧w.heap[bm]?=some (.map es clock)∧(∀e∈ts,e∈es.toList)∧(ts.map (·.born)).Nodup
def lpMu (r0:Nat) (es:Array MapEntry) (w:World):Nat:=match w.heap[r0]? with
 |some (.mapIter _ _ seen _)=>(leftOf es seen).size
 |_=>0
theorem only0 {g:Gh} {b:ABlk} {r:Nat} (h:blockOf (g.ρ 0)≠some r):∀i,alive [b] i→blockOf (g.ρ i)≠some r:=fun i ⟨c,hc,_⟩=>by
 cases i with
 |zero=>exact h
 |succ i=>simp at hc
theorem ext_tuple {P:Program} (arr:Array Value) (i:Nat) (v:Value) (w:World) (h:arr[i]?=some v):(Instr.extract (.tuple arr) i).run P w=.ok v w:=by
 simp[Instr.extract,h]
theorem left_mem {es:Array MapEntry} {seen:List Nat} {e:MapEntry} (h:e∈(leftOf es seen.toArray).toList):e∈es.toList∧e.born ∉ seen:=by
 unfold leftOf at h
 rw[Array.mem_toList_iff,Array.mem_filter] at h
 refine⟨by rw[Array.mem_toList_iff]; exact h.1,fun hm=>?_⟩
 have:=h.2
 simp[hm] at this
theorem lp_round {K0:Nat→Prop} {g0:Gh} {w0:World} {r0 bm:Nat} {es:Array MapEntry} {clock:Nat} (hold:∀x∈es.toList,x.born<clock) (hnd:(es.toList.map (·.born)).Nodup) (hsz:es.size≤1000)
  (hkey:∀e∈es.toList,e.key=.agg #[.int .i64 (scDec e).1,.int .i64 (scDec e).2.1]) {Q:Exit→Act→World→Prop}
  (hQ:∀ts a w,LpI K0 g0 w0 r0 bm es clock ts a w→(leftOf es (ts.map (·.born)).toArray).size=0→Q (.exit 0) a w) {ts:List MapEntry} {a:Act} {w:World} (hI:LpI K0 g0 w0 r0 bm es clock ts a w) :
  WpR Tryz.prog sLp (Exit.then (fun a' w'=>(∃ts,LpI K0 g0 w0 r0 bm es clock ts a' w')∧lpMu r0 es w'<lpMu r0 es w) Q) a w:=by
 obtain⟨K,g,m,hit,h1,h2,h3,hK,hr,hri,hmb,hts,htn⟩:=hI
 have hts35:a.tmps.size=35:=m.tr.1.symm
 have hbr:bm≠r0:=fun e=>h1 (e▸hK)
 rw[sLp_eq]
 refine wpR_seq (wpR_region ?_)
 rw[sOs_size.2.1]
 show wpOpsIn (FW none) 0 Tryz.prog sO6 _ [0,1] a w
 refine wpOps_cons sO6_0.1 sO6_0.2.1 ?_
 have hev:a.eval (.tmp 23)=.pointer (some ⟨r0,0,none⟩):=hit
 rcases run_next_at (P:=Tryz.prog) w (opAt sO6 0).type r0 bm clock clock (ts.map (·.born)).toArray es clock hri hmb hold (Nat.le_refl _) with ⟨hz,hrun⟩|⟨e,he,w1,hw1,hrun⟩
 ·refine wp_value (x:=.tuple #[.bool false]) (w':=w) (by simp[execOp,sO6_0.2.2.2,hev,hrun,Result.andThen]) ?_
  rw[sO6_0.2.2.1]
  refine wpOps_cons sO6_1.1 sO6_1.2.1 ?_
  have he2:(a.put (some 24) (.tuple #[.bool false])).eval (.tmp 24)=.tuple #[.bool false]:=put_getD_same a 24 _ (by omega)
  refine wp_value (x:=.bool false) (w':=w) (by simp[execOp,sO6_1.2.2.2,he2,ext_tuple #[.bool false] 0 (.bool false) w rfl,Result.andThen]) ?_
  rw[sO6_1.2.2.1]
  have hm2:Mid K0 g0 w0 [s38 (ts.map scDec)] (aN [(9,.own 0)]) ((a.put (some 24) (.tuple #[.bool false])).put (some 25) (.bool false)) w K g:=(m.put (some 24) (.any _)).put (some 25) (.any _)
  refine wpR_seq (wpR_cond (t:=false) (put_getD_same (a.put (some 24) (.tuple #[.bool false])) 25 (.bool false) (by rw[put_size]; omega)) (wpR_exit ?_))
  refine hQ ts _ w ⟨K,g,hm2,?_,h1,h2,h3,hK,hr,hri,hmb,hts,htn⟩ hz
  rw[put_getD _ _ _ (by decide),put_getD _ _ _ (by decide)]; exact hit
 ·obtain⟨he1,he2⟩:=left_mem he
  have hw1s:w1.heap=w.heap:=by rcases hw1 with rfl|rfl<;>rfl
  refine wp_value (x:=.tuple #[.bool true,e.key,e.val]) (w':=setBlock w1 r0 (.mapIter (some bm) clock ((ts.map (·.born)).toArray.push e.born) clock)) (by simp[execOp,sO6_0.2.2.2,hev,hrun,Result.andThen]) ?_
  rw[sO6_0.2.2.1]
  generalize hw2:setBlock w1 r0 (.mapIter (some bm) clock ((ts.map (·.born)).toArray.push e.born) clock)=w2
  have hw2h:w2.heap=w.heap.setIfInBounds r0 (.mapIter (some bm) clock ((ts.map (·.born)).toArray.push e.born) clock):=by rw[←hw2,←hw1s]; rfl
  have hw2o:w2.os=w.os∧w2.tape=w.tape∧w2.output=w.output:=by rw[←hw2]; rcases hw1 with rfl|rfl<;>exact⟨rfl,rfl,rfl⟩
  have hw2s:w2.heap.size=w.heap.size:=by rw[hw2h,Array.size_setIfInBounds]
  have hw2n:∀n,n≠r0→w2.heap[n]?=w.heap[n]?:=fun n hn=>by rw[hw2h,Array.getElem?_setIfInBounds,if_neg (Ne.symm hn)]
  have hw2r:w2.heap[r0]?=some (.mapIter (some bm) clock ((ts++[e]).map (·.born)).toArray clock):=by
   rw[hw2h,Array.getElem?_setIfInBounds,if_pos rfl,if_pos hr,List.map_append,List.map_cons,List.map_nil,List.push_toArray]
  clear hrun hw2 hw2h
  have m1:=m.turn (w':=w2) (r:=r0) hw2o.1 hw2o.2.1 hw2o.2.2 (by omega) (fun n _ hn=>hw2n n hn) h1 h2 (only0 h3)
  refine wpOps_cons sO6_1.1 sO6_1.2.1 ?_
  have he3:(a.put (some 24) (.tuple #[.bool true,e.key,e.val])).eval (.tmp 24)=.tuple #[.bool true,e.key,e.val]:=put_getD_same a 24 _ (by omega)
  refine wp_value (x:=.bool true) (w':=w2) (by simp[execOp,sO6_1.2.2.2,he3,ext_tuple #[.bool true,e.key,e.val] 0 (.bool true) w2 rfl,Result.andThen]) ?_
  rw[sO6_1.2.2.1]
  have m2:Mid K0 g0 w0 [s38 (ts.map scDec)] (aN [(9,.own 0)]) ((a.put (some 24) (.tuple #[.bool true,e.key,e.val])).put (some 25) (.bool true)) w2 K g:=(m1.put (some 24) (.any _)).put (some 25) (.any _)
  refine wpR_seq (wpR_cond (t:=true) (put_getD_same (a.put (some 24) (.tuple #[.bool true,e.key,e.val])) 25 (.bool true) (by rw[put_size]; omega)) (wpR_skip ?_))
  have hit2:((a.put (some 24) (.tuple #[.bool true,e.key,e.val])).put (some 25) (.bool true)).tmps.getD 23 Go.undef=.pointer (some ⟨r0,0,none⟩):=by
   rw[put_getD _ _ _ (by decide),put_getD _ _ _ (by decide)]; exact hit
  generalize (a.put (some 24) (.tuple #[.bool true,e.key,e.val])).put (some 25) (.bool true)=a2 at m2 hit2
  have ha2:a2.tmps.size=35:=m2.tr.1.symm
  -- the round's body
  refine wpR_block (wpR_seq (wpR_region ?_))
  rw[sOs_size.2.2.1]
  show wpOpsIn (FW none) 0 Tryz.prog sO7 _ (0::List.range' 1 3) a2 w2
  refine wpOps_cons sO7_0.1 sO7_0.2.1 ?_
  have hev2:a2.eval (.tmp 23)=.pointer (some ⟨r0,0,none⟩):=hit2
  have hen:=run_entry_at (P:=Tryz.prog) w2 r0 bm clock (ts.map (·.born)).toArray es clock e (by rw[hw2r,List.map_append,List.map_cons,List.map_nil,List.push_toArray]) ((hw2n bm hbr).trans hmb) he1 hnd
  refine wp_value (x:=.tuple #[e.key,e.val]) (w':=w2) (by simp[execOp,sO7_0.2.2.2,hev2,hen,Result.andThen]) ?_
  rw[sO7_0.2.2.1]
  have rk:Rep [s38 (ts.map scDec)] g w2 (.tup [scQ (scDec e).1 (scDec e).2.1,.any]) (.tuple #[e.key,e.val]):=by
   refine .tup _ _ rfl fun j c x hc hx=>?_
   match j with
   |0=>
    simp at hc hx; subst hc; subst hx
    rw[hkey e he1]
    refine .agg _ _ rfl fun j c x hc hx=>?_
    match j with
    |0=>simp at hc hx; subst hc; subst hx; exact .int _ _
    |1=>simp at hc hx; subst hc; subst hx; exact .int _ _
    |j+2=>simp at hc
   |1=>simp at hc hx; subst hc; exact .any _
   |j+2=>simp at hc
  have m3:=(m2.put (some 26) rk).lock (r:=r0) (by omega) (only0 h3)
  have e7:sO7.toList.tail.length=3:=by rw[List.length_tail,Array.length_toList,sOs_size.2.2.1]
  rw[←e7]
  refine mid_opsT tabOk (tower_ok mixedT tabOk (twY_ok fsM4_ok spM0_ok) 0 0) (List.drop_one (l:=sO7.toList)) (sc_r7 0 0 (scDec e).1 (scDec e).2.1 (ts.map scDec)) sO7_stay (show Mid K0 g0 w0 [s38 (ts.map scDec)] (aN [(9,.own 0),(26,.tup [scQ (scDec e).1 (scDec e).2.1,.any])]) _ w2 _ g from m3) fun a4 w4 g4 l4 d4 f4 m4=>?_
  have m5:Mid K0 g0 w0 [s38 (ts.map scDec),.box true [.int .i64 (scDec e).1,.int .i64 (scDec e).2.1]] (aN [(9,.own 0),(10,.op 1 0)]) a4 w4 _ g4:=m4.weak [9,10]
  show WpR Tryz.prog sR8 _ a4 w4
  rw[sR8_eq]
  refine wpR_region ?_
  have e8:List.range sO8.size=List.range' 0 sO8.toList.length:=by rw[List.range_eq_range',Array.length_toList]
  rw[e8]
  have hlen:ts.length≤es.size:=by
   have:=List.Nodup.length_le_of_subset htn (l₂:=es.toList.map (·.born)) fun x hx=>by
    obtain⟨q,hq,rfl⟩:=List.mem_map.1 hx
    exact List.mem_map.2 ⟨q,hts q hq,rfl⟩
   simpa using this
  refine mid_opsT tabOk (tower_ok mixedT tabOk (twY_ok fsM4_ok spM0_ok) 0 0) (i:=0) List.drop_zero (sc_o8 0 0 (scDec e).1 (scDec e).2.1 (xs:=ts.map scDec) (by rw[List.length_map]; omega)) sO8_stay m5 fun a6 w6 g6 l6 d6 f6 m6=>?_
  -- put together
  have l46:=l4.trans l6
  have e3:(((a2.put (some 26) (.tuple #[e.key,e.val])).tmps).getD 23 Go.undef)=.pointer (some ⟨r0,0,none⟩):=by rw[put_getD _ _ _ (by decide)]; exact hit2
  have own3:([.dead,.box true [.int .i64 (scDec e).1,.int .i64 (scDec e).2.1],s38 [((scDec e).1,(scDec e).2.1,())],s38 (ts.map scDec++[((scDec e).1,(scDec e).2.1,())])]:List ABlk)[3]?=some (s38 (ts.map scDec++[((scDec e).1,(scDec e).2.1,())])):=rfl
  have r9:=m6.tr.get 9
  have v9:a6.tmps.getD 9 Go.undef=g6.ρ 3∧(a6.tmps.getD 9 Go.undef).oneCell'=true:=by
   have:(aN [(9,.own 3),(10,.op 1 0),(28,.own 0),(29,scQ (scDec e).1 (scDec e).2.1),(30,.own 2),(31,.own 3)]).getD 9 .any=.own 3:=rfl
   rw[this] at r9
   generalize a6.tmps.getD 9 Go.undef=v at r9
   cases r9 with|own _ _ _ hc hv=>exact⟨hv _ _ _ _ own3,hc⟩
  have ne9:blockOf (g6.ρ 3)≠some r0:=fun hb=>(m6.st.sep 3 r0 ⟨_,own3,by simp⟩ hb).1 (.inr rfl)
  have nM:¬g6.M r0:=fun hM=>(l46.new r0 hM).elim h2 fun h=>h (.inr rfl)
  have m7:=m6.one (i:=3) (e:=nmSh) (by decide) nm_flat own3 (tm':=aN [(9,.own 0)]) ⟨by rw[←m6.tr.1]; rfl,fun j c x hc hx=>?_⟩
  ·have df6:MRep K0 K g6 w6 a6.defers:=by rw[d6,d4,put_defers]; exact m2.df.mono (l46.less fun b hb=>.inl hb)
   have m8:=m7.unlock (K:=K) (fun b hb=>.inl hb) m.kk df6
   have hr6:w6.heap[r0]?=some (.mapIter (some bm) clock ((ts++[e]).map (·.born)).toArray clock):=(l46.k r0 (.inr rfl)).trans hw2r
   have hsz6:=l46.size
   show (∃ts,LpI K0 g0 w0 r0 bm es clock ts a6 w6)∧lpMu r0 es w6<lpMu r0 es w
   refine⟨⟨ts++[e],K,⟨fun _=>g6.ρ 3,g6.M⟩,?_,f6.trans (f4.trans e3),h1,nM,ne9,hK,by omega,hr6,(l46.k bm (.inl hK)).trans ((hw2n bm hbr).trans hmb),fun q hq=>?_,?_⟩,?_⟩
   ·rw[List.map_append]; exact m8
   ·rcases List.mem_append.1 hq with h|h
    ·exact hts q h
    ·rw[List.mem_singleton.1 h]; exact he1
   ·rw[List.map_append,List.nodup_append]
    refine⟨htn,by simp,fun x hx y hy=>?_⟩
    simp at hy
    subst hy
    rintro rfl
    exact he2 hx
   ·unfold lpMu
    rw[hr6,hri]
    simp only
    have:=left_shrinks es (ts.map (·.born)).toArray e he
    rw[List.map_append,List.map_cons,List.map_nil,←List.push_toArray]
    exact this
  ·have hj:j<35:=by
    have:=(List.getElem?_eq_some_iff.1 hc).1
    exact this
   by_cases e9:j=9
   ·subst e9
    have hc':c=.own 0:=by
     have:(aN [(9,.own 0)])[9]?=some (AVal.own 0):=rfl
     rw[this] at hc; cases hc; rfl
    subst hc'
    have hx':a6.tmps.getD 9 Go.undef=x:=by rw[Array.getD_eq_getD_getElem?,hx]; rfl
    rw[←hx']
    exact .own 0 _ (Here.of (b:=s38 (ts.map scDec++[((scDec e).1,(scDec e).2.1,())])) rfl (by simp)) v9.2 fun _ _ _ _ _=>v9.1
   ·have hc':c=.any:=by
     have:∀j,j<35→j≠9→(aN [(9,.own 0)])[j]?=some AVal.any:=fun j hj h9=>by
      show ((List.replicate 35 AVal.any).set 9 (.own 0))[j]?=_
      rw[List.getElem?_set,if_neg (Ne.symm h9),List.getElem?_replicate,if_pos hj]
     rw[this j hj e9] at hc; cases hc; rfl
    subst hc'
    exact .any x
end Go.Proofs.YtneedmplkodcjaaGreat
namespace Go.Proofs.YtneedmplkodcjaaGreat
open Go.RowKit Go.Shelf Go.Sort
def scSort_ren:Go.Shelf.Ren:=⟨fun|6=>79|15=>114|14=>113|28=>150|29=>151|20=>142|21=>143|22=>144|23=>145|24=>146|25=>147|26=>148|27=>149|46=>161|47=>162|48=>163|49=>164|50=>165|57=>168|n=>n,fun|22=>98|24=>102|25=>155|3=>3|39=>123|0=>0|53=>217|55=>78|4=>4|46=>211|45=>210|50=>166|5=>5|9=>9|66=>225|70=>228|76=>232|77=>110|n=>n,fun|n=>n⟩
theorem scSort:Go.Proofs.SlLaysF0.n6 Tryz.prog scSort_ren:={
 mixed:=by kernel_rfl,
 f6:=⟨Tryz.f79.name,by decide,Tryz.func79.trans (congrArg some (by kernel_rfl))⟩,
 f14:=⟨Tryz.f113.name,by decide,Tryz.func113.trans (congrArg some (by kernel_rfl))⟩,
 f15:=Tryz.func114.trans (congrArg some (by kernel_rfl)),
 f20:=⟨Tryz.f142.name,by decide,Tryz.func142.trans (congrArg some (by kernel_rfl))⟩,
 f21:=⟨Tryz.f143.name,by decide,Tryz.func143.trans (congrArg some (by kernel_rfl))⟩,
 f22:=⟨Tryz.f144.name,by decide,Tryz.func144.trans (congrArg some (by kernel_rfl))⟩,
 f23:=⟨Tryz.f145.name,by decide,Tryz.func145.trans (congrArg some (by kernel_rfl))⟩,
 f24:=⟨Tryz.f146.name,by decide,Tryz.func146.trans (congrArg some (by kernel_rfl))⟩,
 f25:=⟨Tryz.f147.name,by decide,Tryz.func147.trans (congrArg some (by kernel_rfl))⟩,
 f26:=⟨Tryz.f148.name,by decide,Tryz.func148.trans (congrArg some (by kernel_rfl))⟩,
 f27:=⟨Tryz.f149.name,by decide,Tryz.func149.trans (congrArg some (by kernel_rfl))⟩,
 f28:=Tryz.func150.trans (congrArg some (by kernel_rfl)),
 f29:=Tryz.func151.trans (congrArg some (by kernel_rfl)),
 f46:=⟨Tryz.f161.name,by decide,Tryz.func161.trans (congrArg some (by kernel_rfl))⟩,
 f47:=Tryz.func162.trans (congrArg some (by kernel_rfl)),
 f48:=Tryz.func163.trans (congrArg some (by kernel_rfl)),
 f49:=⟨Tryz.f164.name,by decide,Tryz.func164.trans (congrArg some (by kernel_rfl))⟩,
 f50:=⟨Tryz.f165.name,by decide,Tryz.func165.trans (congrArg some (by kernel_rfl))⟩,
 f57:=⟨Tryz.f168.name,by decide,Tryz.func168.trans (congrArg some (by kernel_rfl))⟩,
 t0:=Tryz.underlying0,
 a0:=Tryz.isAgg0,
 z0:=Tryz.sizeOf0,
 v0:=Tryz.zeroValue0,
 t3:=Tryz.underlying3,
 a3:=Tryz.isAgg3,
 z3:=Tryz.sizeOf3,
 v3:=Tryz.zeroValue3,
 t4:=Tryz.underlying4,
 a4:=Tryz.isAgg4,
 z4:=Tryz.sizeOf4,
 v4:=Tryz.zeroValue4,
 t5:=Tryz.underlying5,
 a5:=Tryz.isAgg5,
 z5:=Tryz.sizeOf5,
 v5:=Tryz.zeroValue5,
 t9:=Tryz.underlying9,
 a9:=Tryz.isAgg9,
 z9:=Tryz.sizeOf9,
 v9:=Tryz.zeroValue9,
 t22:=Tryz.underlying98,
 a22:=Tryz.isAgg98,
 z22:=Tryz.sizeOf98,
 v22:=Tryz.zeroValue98,
 t25:=Tryz.underlying155,
 a25:=Tryz.isAgg155,
 z25:=Tryz.sizeOf155,
 v25:=Tryz.zeroValue155,
 t39:=Tryz.underlying123,
 a39:=Tryz.isAgg123,
 z39:=Tryz.sizeOf123,
 v39:=Tryz.zeroValue123,
 t45:=Tryz.underlying210,
 a45:=Tryz.isAgg210,
 z45:=Tryz.sizeOf210,
 v45:=Tryz.zeroValue210,
 t46:=Tryz.underlying211,
 a46:=Tryz.isAgg211,
 z46:=Tryz.sizeOf211,
 v46:=Tryz.zeroValue211,
 t50:=Tryz.underlying166,
 a50:=Tryz.isAgg166,
 z50:=Tryz.sizeOf166,
 v50:=Tryz.zeroValue166,
 t53:=Tryz.underlying217,
 a53:=Tryz.isAgg217,
 z53:=Tryz.sizeOf217,
 v53:=Tryz.zeroValue217,
 t55:=Tryz.underlying78,
 a55:=Tryz.isAgg78,
 z55:=Tryz.sizeOf78,
 v55:=Tryz.zeroValue78,
 t66:=Tryz.underlying225,
 a66:=Tryz.isAgg225,
 z66:=Tryz.sizeOf225,
 v66:=Tryz.zeroValue225,
 t70:=Tryz.underlying228,
 a70:=Tryz.isAgg228,
 z70:=Tryz.sizeOf228,
 v70:=Tryz.zeroValue228,
 t76:=Tryz.underlying232,
 a76:=Tryz.isAgg232,
 z76:=Tryz.sizeOf232,
 v76:=Tryz.zeroValue232,
 t77:=Tryz.underlying110,
 a77:=Tryz.isAgg110,
 z77:=Tryz.sizeOf110,
 v77:=Tryz.zeroValue110 }
abbrev ScQ:={ p:Int × Int // -1≤p.1∧p.1≤1∧0≤p.2∧p.2≤1000 }
instance:Inhabited ScQ:=⟨⟨(0,0),by decide⟩⟩
def encSc (x:ScQ):List Value:=[.int .i64 x.1.1,.int .i64 x.1.2]
def cfSc (x y:ScQ):Int:=if x.1.1=y.1.1 then x.1.2-y.1.2 else x.1.1-y.1.1
theorem ltSc (x y:ScQ):ltOf cfSc x y=true↔x.1.1<y.1.1∨(x.1.1=y.1.1∧x.1.2<y.1.2):=by
 unfold ltOf cfSc
 rw[decide_eq_true_eq]
 split<;>omega
theorem ltSc' (x y:ScQ):ltOf cfSc x y=false↔¬(x.1.1<y.1.1∨(x.1.1=y.1.1∧x.1.2<y.1.2)):=by
 rw[←ltSc]; simp
theorem swoSc:SWO (ltOf cfSc) where
 irrefl x:=by rw[ltSc']; omega
 trans x y z h1 h2:=by rw[ltSc] at *; omega
 ntrans x y z h1 h2:=by rw[ltSc'] at *; omega
theorem totSc (x y:ScQ) (h1:ltOf cfSc x y=false) (h2:ltOf cfSc y x=false):x=y:=by
 rw[ltSc'] at h1 h2
 apply Subtype.ext
 apply Prod.ext<;>omega
set_option maxHeartbeats 1000000 in
theorem closSc (x y:ScQ) (W:World):Calls Tryz.prog 80 #[.agg #[.int .i64 x.1.1,.int .i64 x.1.2],.agg #[.int .i64 y.1.1,.int .i64 y.1.2]] W fun e w'=>e=.returned (.int .i64 (cfSc x y))∧∃q os',w'=grow (W.drewN q) os':=by
 obtain⟨⟨x1,x2⟩,hx⟩:=x
 obtain⟨⟨y1,y2⟩,hy⟩:=y
 simp only at hx hy ⊢
 have w1:wrap64 (x1-y1)=x1-y1:=by unfold wrap64; omega
 have w2:wrap64 (x2-y2)=x2-y2:=by unfold wrap64; omega
 by_cases h:x1=y1
 ·have e:cfSc ⟨(x1,x2),hx⟩ ⟨(y1,y2),hy⟩=x2-y2:=by unfold cfSc; simp[h]
  rw[e]
  clear hx hy w1 e
  subst h
  go_enter Tryz.func80,Tryz.ntmps80
  go_wp2
  go_ret
  exact⟨congrArg (fun z=>Ending.returned (.int .i64 z)) w2,0,_,by rw[alloc_eq_grow,alloc_eq_grow,grow_grow]; rfl⟩
 ·have e:cfSc ⟨(x1,x2),hx⟩ ⟨(y1,y2),hy⟩=x1-y1:=by unfold cfSc; simp[h]
  rw[e]
  have hn:(x1==y1)=false:=by simpa using h
  clear hx hy w2 e
  go_enter Tryz.func80,Tryz.ntmps80
  go_wp2
  go_ret
  exact⟨congrArg (fun z=>Ending.returned (.int .i64 z)) w1,0,_,by rw[alloc_eq_grow,alloc_eq_grow,grow_grow]; rfl⟩
theorem cmpSc (blk off size:Nat) (w:World):CmpLays Tryz.prog 80 #[] encSc 2 cfSc blk off size w:=fun _ _ _ _ x y=>closSc x y _
theorem sortRow (blk c:Nat) (d:Array ScQ) (w:World) (hH:HoldsK encSc 2 w blk 0 d) (hblk:blk<w.heap.size) (hsz:d.size<4611686018427387904) :
  Calls Tryz.prog 79 #[.slice (some ⟨blk,0,none⟩) d.size c,.func (.func 80) #[] #[]] w fun e w'=>
   e=.returned (.tuple #[])∧∃n os,w'=sortWorldK encSc 2 w blk 0 n (d.toList.mergeSort fun x y=>!(ltOf cfSc) y x).toArray os:=
 AnyQ.slices_SortFunc_total scSort 2 Tryz.isAgg102 Tryz.sizeOf102 encSc (fun _=>rfl) (fun x v hv=>by simp[encSc] at hv; rcases hv with rfl|rfl<;>rfl) cfSc swoSc 80 #[] blk 0 c d w
  (enters_of Tryz.func80 (by kernel_rfl) rfl) (cmpSc blk 0 d.size w) hH hblk hsz totSc
theorem sortNone (p:Option Addr) (c:Nat) (w:World):Calls Tryz.prog 79 #[.slice p 0 c,.func (.func 80) #[] #[]] w fun e w'=>e=.returned (.tuple #[])∧w'=w:=
 AnyF.slices_SortFunc_none (P:=Tryz.prog) (ρ:=scSort_ren) { scSort with } p c (.func (.func 80) #[] #[]) w
theorem sortW_block (w:World) (blk n:Nat) (d:Array ScQ) (os:Array Obj) {b:Nat} (hb:b≠blk) (hs:b<w.heap.size):(sortWorldK encSc 2 w blk 0 n d os).heap[b]?=w.heap[b]?:=by
 have h1:(putRowK encSc 2 (Sort.ahead w n) blk 0 d).heap[b]?=w.heap[b]?:=by
  simp only[putRowK,putRow,mapBlock,Array.getElem?_modify,if_neg (Ne.symm hb)]
  rfl
 have h2:b<(putRowK encSc 2 (Sort.ahead w n) blk 0 d).heap.size:=by
  simp only[putRowK,size_putRow]; exact hs
 simp only[sortWorldK,grow]
 rw[Array.getElem?_append_left h2]
 exact h1
theorem sortW_below (w:World) (blk n:Nat) (d:Array ScQ) (os:Array Obj):(sortWorldK encSc 2 w blk 0 n d os).os=w.os∧(sortWorldK encSc 2 w blk 0 n d os).tape=w.tape∧(sortWorldK encSc 2 w blk 0 n d os).output=w.output∧w.heap.size≤(sortWorldK encSc 2 w blk 0 n d os).heap.size:=by
 refine⟨rfl,rfl,rfl,?_⟩
 simp only[sortWorldK,grow,Array.size_append,putRowK,size_putRow]
 exact Nat.le_add_right _ _
theorem sortW_cell (w:World) (blk n:Nat) (d0 d:Array ScQ) (os:Array Obj) (hblk:blk<w.heap.size) (h0:HoldsK encSc 2 w blk 0 d0) (h:d.size=d0.size) {i j:Nat} (hi:i<d.size) (hj:j<2):(sortWorldK encSc 2 w blk 0 n d os).cell? ⟨blk,i*2+j,none⟩=some ((encSc d[i]!)[j]!):=by
 have:=(holdsK_sortWorldK encSc 2 w blk 0 n d0 d os hblk h0 h (i*2+j) (by rw[size_flatK]; omega)).1
 rw[Nat.zero_add,get_flatK _ _ _ _ (by omega)] at this
 have e1:(i*2+j) / 2=i:=by omega
 have e2:(i*2+j) % 2=j:=by omega
 rw[e1,e2] at this
 exact this
def toQ (q:ScI):ScQ:=if h:-1≤q.1∧q.1≤1∧0≤q.2.1∧q.2.1≤1000 then ⟨(q.1,q.2.1),h⟩ else default
def ofQ (q:ScQ):ScI:=(q.1.1,q.1.2,())
theorem of_to {q:ScI} (h:-1≤q.1∧q.1≤1∧0≤q.2.1∧q.2.1≤16):ofQ (toQ q)=q:=by
 have h':-1≤q.1∧q.1≤1∧0≤q.2.1∧q.2.1≤1000:=by omega
 unfold toQ ofQ
 rw[dif_pos h']
def srt (xs:List ScI):List ScQ:=(xs.map toQ).toArray.toList.mergeSort fun x y=>!(ltOf cfSc) y x
theorem srt_len (xs:List ScI):(srt xs).length=xs.length:=by
 unfold srt
 rw[List.length_mergeSort,List.length_map]
theorem srt_eq {xs l:List ScI} (hp:xs.Perm l) (hs:l.Pairwise fun p q=>scLt p q=true) (hin:∀q∈l,-1≤q.1∧q.1≤1∧0≤q.2.1∧q.2.1≤16):(srt xs).map ofQ=l:=by
 have p1:((srt xs).map ofQ).Perm l:=by
  unfold srt
  refine ((List.mergeSort_perm _ _).map ofQ).trans ?_
  rw[List.map_map]
  have:xs.map (ofQ ∘ toQ)=xs:=by
   refine (List.map_congr_left fun q hq=>?_).trans (List.map_id xs)
   exact of_to (hin q (hp.mem_iff.1 hq))
  rw[this]
  exact hp
 have nd:((srt xs).map ofQ).Nodup:=p1.nodup_iff.2 (hs.imp fun {p q} h e=>by subst e; rw[scLt_iff] at h; omega)
 refine sc_unique (List.pairwise_map.2 ?_) hs p1
 have w1:(srt xs).Pairwise fun x y=>(!(ltOf cfSc) y x)=true:=List.pairwise_mergeSort
  (fun a b c h1 h2=>by rw[Bool.not_eq_true',ltSc'] at *; omega) (fun a b=>by
   cases h1:(ltOf cfSc) b a
   ·rfl
   ·cases h2:(ltOf cfSc) a b
    ·rfl
    ·rw[ltSc] at h1 h2; omega) _
 have w2:(srt xs).Pairwise fun x y=>ofQ x≠ofQ y:=List.pairwise_map.1 nd
 refine (w1.and w2).imp fun {x y} h=>?_
 have h1:=h.1
 rw[Bool.not_eq_true'] at h1
 cases hxy:(ltOf cfSc) x y
 ·exact absurd (congrArg ofQ (totSc x y hxy h1)) h.2
 ·rw[ltSc] at hxy
  exact (scLt_iff _ _).2 hxy
theorem row_holds {h:List ABlk} {g:Gh} {w:World} {v:Value} {xs:List ScI} (o:RowOk h g w v 102 nmSh xs) (hin:∀q∈xs,-1≤q.1∧q.1≤1∧0≤q.2.1∧q.2.1≤16) :
  (xs=[]∧∃p c,v=.slice p 0 c∧c≤maxLen∧(p=none→c=0)) ∨
  (∃b c,v=.slice (some ⟨b,0,none⟩) xs.length c∧0<xs.length∧xs.length≤c∧c≤maxLen∧b<w.heap.size∧HoldsK encSc 2 w b 0 (xs.map toQ).toArray):=by
 obtain⟨vs,⟨hl,ho⟩,hr⟩:=(rowOk_iff (e:=nmSh) (by decide)).1 o
 rcases ho with ⟨rfl,hn⟩|⟨b,c,cur,rfl,_,hb,h1,h2,h3,h4⟩
 ·exact .inl ⟨List.length_eq_zero_iff.1 hn,none,0,rfl,Nat.zero_le _,fun _=>rfl⟩
 ·by_cases h0:xs.length=0
  ·exact .inl ⟨List.length_eq_zero_iff.1 h0,some ⟨b,0,none⟩,c,congrArg (fun n=>Value.slice (some ⟨b,0,none⟩) n c) h0,h2,fun h=>by cases h⟩
  ·refine .inr ⟨b,c,rfl,by omega,h1,h2,(Array.getElem?_eq_some_iff.1 hb).1,fun t ht=>?_⟩
   rw[size_flatK,List.size_toArray,List.length_map] at ht
   have hq:t / 2<xs.length:=by omega
   rw[get_flatK _ _ _ _ (by rw[List.size_toArray,List.length_map]; exact ht)]
   have hx:xs[t / 2]?=some xs[t / 2]:=List.getElem?_eq_getElem hq
   have hd:(xs.map toQ).toArray[t / 2]! = toQ xs[t / 2]:=by
    rw[getElem!_pos _ _ (by rw[List.size_toArray,List.length_map]; exact hq)]
    simp
   rw[hd]
   have hv:=hin _ (List.getElem_mem hq)
   generalize xs[t / 2]=q at hx hv
   have hsz:nmSh.size=2:=rfl
   have h4':List.take ((xs:List ScI).length*2) cur.toList=vs:=h4
   have hcur:∀j u,j<2→vs[t / 2*nmSh.size+j]?=some u→t / 2*2+j<(xs:List ScI).length*2→cur[t / 2*2+j]?=some u:=fun j u hj hu hlt=>by
    rw[hsz,←h4'] at hu
    rw[List.getElem?_take,if_pos hlt,Array.getElem?_toList] at hu
    exact hu
   have e2:(toQ q).1=(q.1,q.2.1):=by
    unfold toQ
    rw[dif_pos (by omega)]
   have cell:∀u,cur[t]?=some u→w.cell? ⟨b,0+t,none⟩=some u∧w.frozen? ⟨b,0+t,none⟩=false:=fun u hu=>by
    rw[Nat.zero_add]
    exact⟨by simp[World.cell?,hb,hu],by simp[World.frozen?,hb]⟩
   have cs:nmSh.cells q=[.int .i64 q.1,.int .i64 q.2.1]:=rfl
   rcases Nat.mod_two_eq_zero_or_one t with e|e
   ·rw[e]
    obtain⟨u,q1,q2⟩:=hr (t / 2) q 0 (.int .i64 q.1) hx (by rw[cs]; rfl)
    have:=cell u (by have:=hcur 0 u (by omega) q1 (by omega); rwa [show t / 2*2+0=t by omega] at this)
    cases q2
    refine⟨this.1.trans ?_,this.2⟩
    show _=some ((encSc (toQ q))[0]!)
    unfold encSc; rw[e2]; rfl
   ·rw[e]
    obtain⟨u,q1,q2⟩:=hr (t / 2) q 1 (.int .i64 q.2.1) hx (by rw[cs]; rfl)
    have:=cell u (by have:=hcur 1 u (by omega) q1 (by omega); rwa [show t / 2*2+1=t by omega] at this)
    cases q2
    refine⟨this.1.trans ?_,this.2⟩
    show _=some ((encSc (toQ q))[1]!)
    unfold encSc; rw[e2]; rfl
theorem row_sorted {g:Gh} {w:World} {h:List ABlk} {b c m:Nat} {xs l:List ScI} {os:Array Obj} (hH:HoldsK encSc 2 w b 0 (xs.map toQ).toArray) (hb:b<w.heap.size) (h0:0<xs.length) (hc:xs.length≤c) (hc2:c≤maxLen) (he:(srt xs).map ofQ=l) (hM:g.M b) :
  Rep h g (sortWorldK encSc 2 w b 0 m (srt xs).toArray os) (.ro nmSh l) (.slice (some ⟨b,0,none⟩) xs.length c):=by
 have hl:l.length=xs.length:=by rw[←he,List.length_map,srt_len]
 rw[←hl]
 have hc':l.length≤c:=by omega
 have hp:0<l.length:=by omega
 refine .ro1 nmSh l b 0 c (fun i j=>(encSc (srt xs).toArray[i]!)[j]!) hp hc' hc2 hM (fun n x j cc hx hcc=>?_) fun n x j cc hx hcc=>?_
 ·have hn:n<(l:List ScI).length:=(List.getElem?_eq_some_iff.1 hx).1
  have hj:j<2:=(List.getElem?_eq_some_iff.1 hcc).1
  have:=sortW_cell w b m (xs.map toQ).toArray (srt xs).toArray os hb hH (by rw[List.size_toArray,List.size_toArray,srt_len,List.length_map]) (i:=n) (j:=j) (by rw[List.size_toArray,srt_len]; omega) hj
  have e:0+n*nmSh.size+j=n*2+j:=by rw[Nat.zero_add]; rfl
  rw[e]
  exact this
 ·have hn0:n<(l:List ScI).length:=(List.getElem?_eq_some_iff.1 hx).1
  have hn:n<(srt xs).length:=by rw[srt_len]; omega
  have hx2:ofQ (srt xs)[n]=x:=by
   have hx':(l:List ScI)[n]?=some x:=hx
   rw[←he,List.getElem?_map,List.getElem?_eq_getElem hn] at hx'
   exact Option.some.inj hx'
  have hd:(srt xs).toArray[n]! = (srt xs)[n]:=by
   rw[getElem!_pos _ _ (by rw[List.size_toArray]; exact hn)]
   simp
  show Rep h g _ cc ((encSc (srt xs).toArray[n]!)[j]!)
  rw[hd]
  generalize (srt xs)[n]=q at hx2
  subst hx2
  have cs:nmSh.cells (ofQ q)=[.int .i64 q.1.1,.int .i64 q.1.2]:=rfl
  rw[cs] at hcc
  match j with
  |0=>simp at hcc; subst hcc; exact .int _ _
  |1=>simp at hcc; subst hcc; exact .int _ _
  |j+2=>simp at hcc
theorem born_inj:∀ {l:List MapEntry},(l.map (·.born)).Nodup→∀x∈l,∀y∈l,x.born=y.born→x=y
 | [],_,x,hx,_,_,_=>absurd hx List.not_mem_nil
 |e::l,h,x,hx,y,hy,he=>by
  rw[List.map_cons,List.nodup_cons] at h
  rcases List.mem_cons.1 hx with rfl|hx'
  ·rcases List.mem_cons.1 hy with rfl|hy'
   ·rfl
   ·exact absurd (List.mem_map.2 ⟨y,hy',he.symm⟩) h.1
  ·rcases List.mem_cons.1 hy with rfl|hy'
   ·exact absurd (List.mem_map.2 ⟨x,hx',he⟩) h.1
   ·exact born_inj h.2 x hx' y hy' he
theorem born_nodup {l:List MapEntry} (h:(l.map (·.born)).Nodup):l.Nodup:=(List.pairwise_map.1 h).imp fun {_ _} hne e=>hne (congrArg _ e)
theorem taken_all {es:Array MapEntry} {ts:List MapEntry} (hnd:(es.toList.map (·.born)).Nodup) (hts:∀e∈ts,e∈es.toList) (htn:(ts.map (·.born)).Nodup) (hz:(leftOf es (ts.map (·.born)).toArray).size=0):ts.Perm es.toList:=by
 have inj:=born_inj hnd
 refine (List.perm_ext_iff_of_nodup (born_nodup htn) (born_nodup hnd)).2 fun e=>⟨hts e,fun he=>?_⟩
 have hs:(ts.map (·.born)).toArray.contains e.born=true:=by
  cases hc:(ts.map (·.born)).toArray.contains e.born
  ·have:e∈leftOf es (ts.map (·.born)).toArray:=by
    unfold leftOf
    rw[Array.mem_filter]
    exact⟨by rw[←Array.mem_toList_iff]; exact he,by rw[hc]; rfl⟩
   rw[Array.eq_empty_of_size_eq_zero hz] at this
   exact absurd this (by simp)
  ·rfl
 have hm:e.born∈ts.map (·.born):=by simpa using hs
 obtain⟨q,hq,hqe⟩:=List.mem_map.1 hm
 exact inj q (hts q hq) e he hqe▸hq
theorem own_val {h:List ABlk} {g:Gh} {w:World} {i:Nat} {v:Value} (r:Rep h g w (.own i) v) {wr:Bool} {t:TypeId} {e:Sh} {xs:List e.ty} (hi:h[i]?=some (.row wr t e xs)):v=g.ρ i∧v.oneCell'=true:=by
 cases r with|own _ _ _ hc hv=>exact⟨hv _ _ _ _ hi,hc⟩
theorem trep_one {h:List ABlk} {g:Gh} {w:World} {tmps:Array Value} (hs:tmps.size=35) {d:Nat} (hd:d<35) {v:AVal} (r:Rep h g w v (tmps.getD d Go.undef)):TRep h g w (aN [(d,v)]) tmps:=by
 have e:aN [(d,v)]=(List.replicate 35 AVal.any).set d v:=rfl
 rw[e]
 refine⟨by rw[List.length_set,List.length_replicate,hs],fun j c x hc hx=>?_⟩
 rw[List.getElem?_set] at hc
 by_cases h9:d=j
 ·subst h9
  rw[if_pos rfl,if_pos (by rw[List.length_replicate]; exact hd)] at hc
  cases hc
  have:tmps.getD d Go.undef=x:=by rw[Array.getD_eq_getD_getElem?,hx]; rfl
  rw[←this]; exact r
 ·rw[if_neg h9,List.getElem?_replicate] at hc
  split at hc
  ·cases hc; exact .any x
  ·cases hc
theorem trep_two {h:List ABlk} {g:Gh} {w:World} {tmps:Array Value} (hs:tmps.size=35) {d f:Nat} (hd:d<35) (hf:f<35) (hn:d≠f) {v u:AVal} (r:Rep h g w v (tmps.getD d Go.undef)) (q:Rep h g w u (tmps.getD f Go.undef)):TRep h g w (aN [(d,v),(f,u)]) tmps:=by
 have e:aN [(d,v),(f,u)]=((List.replicate 35 AVal.any).set d v).set f u:=rfl
 rw[e]
 have t1:=trep_one hs hd r
 have e1:aN [(d,v)]=(List.replicate 35 AVal.any).set d v:=rfl
 rw[e1] at t1
 refine⟨by rw[List.length_set]; exact t1.1,fun j c x hc hx=>?_⟩
 rw[List.getElem?_set] at hc
 by_cases h9:f=j
 ·subst h9
  rw[if_pos rfl,if_pos (by rw[t1.1,hs]; exact hf)] at hc
  cases hc
  have:tmps.getD f Go.undef=x:=by rw[Array.getD_eq_getD_getElem?,hx]; rfl
  rw[←this]; exact q
 ·rw[if_neg h9] at hc
  exact t1.2 j c x hc hx
theorem heap_alloc_same (w:World) (o:Obj):∀n,n<w.heap.size→n≠w.heap.size→(w.alloc o).heap[n]?=w.heap[n]?:=fun n hn _=>heap_alloc_old w o hn
theorem enter_sort:∀args w,(callFunc 79 args).run Tryz.prog w=.ok (.enter 79 args) w:=enters_of Tryz.func79 (by kernel_rfl) rfl
theorem run_sort (A:Act) (v:Value) (hv:A.eval (.tmp 32)=v) (w:World):(execOp A.eval (opAt sO9 1)).run Tryz.prog w=.ok (.enter 79 #[v,.func (.func 80) #[] #[]]) w:=by
 have hf:∀f,A.eval (.func f)=.func (.func f) #[] #[]:=fun _=>rfl
 simp[execOp,sO9_1.2.2.2,resolve,hf,hv,Deferred.ofValue,invoke,enter_sort]
theorem sc_behind {K0:Nat→Prop} {g0:Gh} {w0:World} {r0 bm:Nat} {es:Array MapEntry} {clock:Nat} {ts:List MapEntry} {l:List ScI} {a:Act} {w:World} {Q:Exit→Act→World→Prop} (hI:LpI K0 g0 w0 r0 bm es clock ts a w)
  (hp:(ts.map scDec).Perm l) (hs:l.Pairwise fun p q=>scLt p q=true) (hin:∀q∈l,-1≤q.1∧q.1≤1∧0≤q.2.1∧q.2.1≤16) (hlen:l.length≤1000)
  (fin:∀a' w' K' g',Mid K0 g0 w0 [.dead] (aN [(9,.ro nmSh l),(34,.ro nmSh l),(4,.ro nmSh l),(5,.int .i64 0)]) a' w' K' g'→Q .ret a' w'):WpR Tryz.prog (Code.seq (.region 9 sO9 false) sEnd) Q a w:=by
 obtain⟨K,g,m,_,_,_,_,_,_,_,_,_,_⟩:=hI
 have hsz:a.tmps.size=35:=m.tr.1.symm
 have ow:([s38 (ts.map scDec)]:List ABlk)[0]?=some (s38 (ts.map scDec)):=rfl
 have r9:Rep [s38 (ts.map scDec)] g w (.own 0) (a.tmps.getD 9 Go.undef):=m.tr.get 9
 obtain⟨v9,c9⟩:=own_val r9 ow
 have hin':∀q∈ts.map scDec,-1≤q.1∧q.1≤1∧0≤q.2.1∧q.2.1≤16:=fun q hq=>hin q (hp.mem_iff.1 hq)
 have hrow:=row_holds (m.st.blk 0 _ ow) hin'
 rw[←v9] at hrow
 have hll:(ts.map scDec).length=l.length:=hp.length_eq
 refine wpR_seq (wpR_region ?_)
 rw[sOs_size.2.2.2]
 show wpOpsIn (FW none) 0 Tryz.prog sO9 _ [0,1] a w
 refine wpOps_cons sO9_0.1 sO9_0.2.1 ?_
 refine wp_value (x:=a.tmps.getD 9 Go.undef) (w':=w) (by simp[execOp,sO9_0.2.2.2,Act.eval,Result.andThen]) ?_
 rw[sO9_0.2.2.1]
 refine wpOps_cons sO9_1.1 sO9_1.2.1 ?_
 have hv32:(a.put (some 32) (a.tmps.getD 9 Go.undef)).eval (.tmp 32)=a.tmps.getD 9 Go.undef:=put_getD_same a 32 _ (by omega)
 have hrun:=run_sort _ _ hv32 w
 have rest:∀w' (x:Value),((∃g',Mid K0 g0 w0 [.dead] (aN [(9,.ro nmSh l)]) ((a.put (some 32) (a.tmps.getD 9 Go.undef)).put (some 33) x) w' K g'))→WpR Tryz.prog sEnd Q ((a.put (some 32) (a.tmps.getD 9 Go.undef)).put (some 33) x) w':=fun w' x ⟨g',m'⟩=>
  mid_ret mixedT tabOk (tower_ok mixedT tabOk (twY_ok fsM4_ok spM0_ok) 0 0) (sc_end 0 0 l) m' fin
 refine⟨fun _ _=>trivial,?_⟩
 rw[semAt_of hrun (fun d w' e=>by cases e) (fun d c w' _ e=>by cases e),Oper.uponIn_enter]
 have keep9:∀x,((a.put (some 32) (a.tmps.getD 9 Go.undef)).put (some 33) x).tmps.getD 9 Go.undef=a.tmps.getD 9 Go.undef:=fun x=>by rw[put_getD _ _ _ (by decide),put_getD _ _ _ (by decide)]
 have size9:∀x,((a.put (some 32) (a.tmps.getD 9 Go.undef)).put (some 33) x).tmps.size=35:=fun x=>by rw[put_size,put_size]; exact hsz
 have mput:∀x,Mid K0 g0 w0 [s38 (ts.map scDec)] (aN [(9,.own 0)]) ((a.put (some 32) (a.tmps.getD 9 Go.undef)).put (some 33) x) w K g:=fun x=>(m.put (some 32) (.any _)).put (some 33) (.any _)
 generalize a.tmps.getD 9 Go.undef=v at *
 rcases hrow with ⟨h0,p,c,rfl,hc1,hc2⟩|⟨b,c,rfl,h0,hc1,hc2,hb,hH⟩
 ·-- no score at all
  refine⟨fun h=>by simp[FW] at h,(callsIn_of (sortNone p c w)).mono fun e w' he=>?_⟩
  obtain⟨rfl,rfl⟩:=he
  have hl0:l=[]:=by
   have:=hp; rw[h0] at this; exact this.nil_eq.symm
  subst hl0
  refine rest w' _ ⟨g,?_⟩
  have mm:=mput (.tuple #[])
  have ad:∀i,alive [.dead] i→False:=fun i ⟨q,hq,hn⟩=>by
   cases i with
   |zero=>simp at hq; exact hn hq.symm
   |succ i=>simp at hq
  have l:=mm.le
  exact⟨mm.kk,⟨fun j q hq=>by
   cases j with
   |zero=>simp at hq; subst hq; trivial
   |succ j=>simp at hq,fun j _ _ hj=>(ad j hj).elim,fun j _ hj=>(ad j hj).elim,mm.st.low,mm.st.klow⟩,⟨Nat.zero_le _,fun j hj=>absurd hj.lt (Nat.not_lt_zero j),l.m,l.new,l.mw,l.k,fun j _ _ hj=>absurd hj.lt (Nat.not_lt_zero j),fun j _ _ _ _ hj=>absurd hj.lt (Nat.not_lt_zero j),fun j _ _ _ _ _ _ hj=>absurd hj.lt (Nat.not_lt_zero j),fun j _ hj=>by simp at hj,fun j _ _ _ hj=>by simp at hj,l.os,l.tape,l.output,l.size⟩,
   trep_one (size9 _) (by decide) (by rw[keep9]; exact .ro0 nmSh p c hc1 hc2),mm.df⟩
 ·-- the row is sorted
  have hcall:=sortRow b c ((ts.map scDec).map toQ).toArray w hH hb (by rw[List.size_toArray,List.length_map,hll]; omega)
  rw[List.size_toArray,List.length_map] at hcall
  refine⟨fun h=>by simp[FW] at h,(callsIn_of hcall).mono fun e w' he=>?_⟩
  obtain⟨rfl,n,os,hw⟩:=he
  have hsrt:srt (ts.map scDec)=((ts.map scDec).map toQ).toArray.toList.mergeSort fun x y=>!(ltOf cfSc) y x:=rfl
  rw[←hsrt] at hw
  refine rest w' _ ?_
  have mm:=mput (.tuple #[])
  have hbk:blockOf (g.ρ 0)=some b:=by rw[←v9]; rfl
  have al0:alive [s38 (ts.map scDec)] 0:=⟨_,ow,by simp⟩
  obtain⟨s1,s2,s3⟩:=mm.st.sep 0 b al0 hbk
  have hbel:=sortW_below w b n (srt (ts.map scDec)).toArray os
  rw[←hw] at hbel
  have hblk:∀k,k<w.heap.size→k≠b→w'.heap[k]?=w.heap[k]?:=fun k hk hne=>by rw[hw]; exact sortW_block w b n _ os hne hk
  -- the row becomes memory that stays,then it turns
  have l0:=mm.le
  have ad:∀i,alive [.dead] i→False:=fun i ⟨q,hq,hn⟩=>by
   cases i with
   |zero=>simp at hq; exact hn hq.symm
   |succ i=>simp at hq
  have hk0:∀k,K k→k≠b:=fun k hk e=>s1 (e▸hk)
  have hm0:∀k,g.M k→k≠b:=fun k hk e=>s2 (e▸hk)
  refine⟨⟨g.ρ,fun k=>g.M k∨k=b⟩,mm.kk,⟨fun j q hq=>by
   cases j with
   |zero=>simp at hq; subst hq; trivial
   |succ j=>simp at hq,fun j _ _ hj=>(ad j hj).elim,fun j _ hj=>(ad j hj).elim,fun k hk=>Nat.lt_of_lt_of_le (hk.elim (mm.st.low k) fun e=>e▸s3) hbel.2.2.2,fun k hk=>Nat.lt_of_lt_of_le (mm.st.klow k hk) hbel.2.2.2⟩,⟨Nat.zero_le _,fun j hj=>absurd hj.lt (Nat.not_lt_zero j),fun k hk=>.inl (l0.m k hk),fun k hk=>hk.elim (l0.new k) fun e=>.inr fun hk=>s1 (e▸mm.kk k hk),fun k hk=>(hblk k (mm.st.low k (l0.m k hk)) (hm0 k (l0.m k hk))).trans (l0.mw k hk),fun k hk=>(hblk k (mm.st.klow k (mm.kk k hk)) (hk0 k (mm.kk k hk))).trans (l0.k k hk),fun j _ _ hj=>absurd hj.lt (Nat.not_lt_zero j),fun j _ _ _ _ hj=>absurd hj.lt (Nat.not_lt_zero j),fun j _ _ _ _ _ _ hj=>absurd hj.lt (Nat.not_lt_zero j),fun j _ hj=>by simp at hj,fun j _ _ _ hj=>by simp at hj,hbel.1.trans l0.os,hbel.2.1.trans l0.tape,hbel.2.2.1.trans l0.output,Nat.le_trans l0.size hbel.2.2.2⟩,
   trep_one (size9 _) (by decide) ?_,?_⟩
  ·rw[keep9,hw]
   exact row_sorted hH hb h0 hc1 hc2 (srt_eq hp hs hin) (.inr rfl)
  ·obtain⟨rs,n1,n2,n3⟩:=mm.df
   refine⟨rs,n1,n2,fun r hr=>?_⟩
   obtain⟨q1,q2,q3,q4⟩:=n3 r hr
   exact⟨q1,q2,fun h=>h.elim q3 (hk0 r q1),(hblk r (mm.st.klow r q1) (hk0 r q1)).trans q4⟩
end Go.Proofs.YtneedmplkodcjaaGreat
namespace Go.Proofs.YtneedmplkodcjaaGreat
open Go.RowKit
theorem alloc_sizeN (w:World) (o:Obj):(w.alloc o).heap.size=w.heap.size+1:=Array.size_push _
theorem map_keys {h:List ABlk} {g:Gh} {w:World} {v:Value} {t:TypeId} {m:ScM} (o:RowOk h g w v t (.mp nmSh .bool) m):∃(bm:Nat) (es:Array MapEntry) (clock:Nat),v=.map (some bm)∧w.heap[bm]?=some (.map es clock)∧es.toList.map scDec=scKeys m ∧
  (∀x∈es.toList,x.born<clock)∧(es.toList.map (·.born)).Nodup∧∀e∈es.toList,e.key=.agg #[.int .i64 (scDec e).1,.int .i64 (scDec e).2.1]:=by
 obtain⟨bm,es,clock,e1,hb,hsz,⟨hold,hnd⟩,hkv⟩:=o
 have hsz':es.size=(m:ScM).length:=hsz
 have at_:∀n (q:ScI × Bool) en,(m:ScM)[n]?=some q→es[n]?=some en→scDec en=q.1∧en.key=.agg #[.int .i64 q.1.1,.int .i64 q.1.2.1]:=fun n q en hq hen=>scDec_rep (hkv n q en hq hen).1
 refine⟨bm,es,clock,e1,hb,List.ext_getElem? fun n=>?_,hold,hnd,fun e he=>?_⟩
 ·unfold scKeys
  rw[List.getElem?_map,List.getElem?_map,Array.getElem?_toList]
  by_cases hn:n<es.size
  ·have h1:es[n]?=some es[n]:=Array.getElem?_eq_getElem hn
   have h2:(m:ScM)[n]?=some ((m:ScM)[n]'(by omega)):=List.getElem?_eq_getElem (by omega)
   rw[h1,h2,Option.map_some,Option.map_some,(at_ n _ _ h2 h1).1]
  ·rw[Array.getElem?_eq_none (by omega),List.getElem?_eq_none (by omega)]; rfl
 ·obtain⟨n,hn,rfl⟩:=List.mem_iff_getElem.1 he
  rw[Array.length_toList] at hn
  rw[Array.getElem_toList]
  have h1:es[n]?=some es[n]:=Array.getElem?_eq_getElem hn
  have h2:(m:ScM)[n]?=some ((m:ScM)[n]'(by omega)):=List.getElem?_eq_getElem (by omega)
  have h3:=at_ n _ _ h2 h1
  rw[h3.2,h3.1]
theorem range_run (A:Act) (bm:Nat) (es:Array MapEntry) (clock:Nat) (w:World) (hv:A.eval (.tmp 22)=.map (some bm)) (hb:w.heap[bm]?=some (.map es clock)):(execOp A.eval (opAt sO5 2)).run Tryz.prog w=.ok (.value (.pointer (some ⟨w.heap.size,0,none⟩))) (w.alloc (.mapIter (some bm) clock #[] clock)):=by
 have hrun:=run_range_map (P:=Tryz.prog) w 152 _ _ bm es clock Tryz.underlying152 hb
 simp[execOp,sO5_2.2.2.2,hv,hrun,Result.andThen]
theorem sc_loop {K0:Nat→Prop} {g0:Gh} {w0:World} {x y:List RdI} (hx:rdGood x) (hy:rdGood y) {a:Act} {w:World} {K:Nat→Prop} {g:Gh} {Q:Exit→Act→World→Prop} (m:Mid K0 g0 w0 (scH1 (scM x y)) (aN [(9,.own 0),(21,.agg [.ro RdSh x,.ro RdSh y]),(22,.own 2)]) a w K g)
  (fin:∀a' w' K' g',Mid K0 gNone w0 [.dead] (aN [(9,.ro nmSh (scL x y)),(34,.ro nmSh (scL x y)),(4,.ro nmSh (scL x y)),(5,.int .i64 0)]) a' w' K' g'→Q .ret a' w') :
  (opAt sO5 2).wpIn (FW none) 0 Tryz.prog a w (wpOpsIn (FW none) 0 Tryz.prog sO5 (Exit.then (WpR Tryz.prog (Code.block 0 (.loop sLp)) (Exit.then (WpR Tryz.prog (Code.seq (.region 9 sO9 false) sEnd) Q) Q)) (Exit.then (WpR Tryz.prog (Code.seq (.region 9 sO9 false) sEnd) Q) Q)) []) (Exit.then (WpR Tryz.prog (Code.block 0 (.loop sLp)) (Exit.then (WpR Tryz.prog (Code.seq (.region 9 sO9 false) sEnd) Q) Q)) (Exit.then (WpR Tryz.prog (Code.seq (.region 9 sO9 false) sEnd) Q) Q)):=by
 have hsz:a.tmps.size=35:=m.tr.1.symm
 have o2:(scH1 (scM x y))[2]?=some (.row true 152 (.mp nmSh .bool) (scM x y)):=rfl
 have o0:(scH1 (scM x y))[0]?=some (s38 []):=rfl
 have r22:Rep (scH1 (scM x y)) g w (.own 2) (a.tmps.getD 22 Go.undef):=m.tr.get 22
 have r9:Rep (scH1 (scM x y)) g w (.own 0) (a.tmps.getD 9 Go.undef):=m.tr.get 9
 obtain⟨v22,_⟩:=own_val r22 o2
 obtain⟨v9,c9⟩:=own_val r9 o0
 obtain⟨bm,es,clock,e1,hb,hks,hold,hnd,hkey⟩:=map_keys (t:=152) (m.st.blk 2 _ o2)
 have hbl:blockOf (g.ρ 2)=some bm:=by rw[e1]; rfl
 obtain⟨b1,b2,b3⟩:=m.st.sep 2 bm ⟨_,o2,by simp⟩ hbl
 have hv:a.eval (.tmp 22)=.map (some bm):=v22.trans e1
 refine wp_value (range_run a bm es clock w hv hb) ?_
 rw[sO5_2.2.2.1]
 have m1:Mid K0 g0 w0 (scH1 (scM x y)) (aN [(9,.own 0),(21,.agg [.ro RdSh x,.ro RdSh y]),(22,.own 2)]) a (w.alloc (.mapIter (some bm) clock #[] clock)) K g:=
  m.turn (r:=w.heap.size) rfl rfl rfl (by rw[alloc_sizeN]; exact Nat.le_succ _) (heap_alloc_same w _) (fun h=>Nat.lt_irrefl _ (m.st.klow _ h)) (fun h=>Nat.lt_irrefl _ (m.st.low _ h)) fun i hi h=>Nat.lt_irrefl _ (m.st.sep i _ hi h).2.2
 have m2:=m1.put (some 23) (.any (.pointer (some ⟨w.heap.size,0,none⟩)))
 have n0:blockOf (g.ρ 0)≠some bm:=fun h=>absurd (m.st.inj 0 2 bm ⟨_,o0,by simp⟩ ⟨_,o2,by simp⟩ h hbl) (by decide)
 have k9:(a.put (some 23) (.pointer (some ⟨w.heap.size,0,none⟩))).tmps.getD 9 Go.undef=a.tmps.getD 9 Go.undef:=put_getD _ _ _ (by decide)
 have m3:=m2.oneN (i:=0) (e:=nmSh) (by decide) nm_flat o0 (tm':=aN [(9,.own 0)]) (trep_one (by rw[put_size]; exact hsz) (by decide) (by
  rw[k9]; exact .own 0 _ (Here.of (b:=s38 []) rfl (by simp)) c9 fun _ _ _ _ _=>v9))
 have m4:=m3.lock (r:=bm) (by rw[alloc_sizeN]; omega) (only0 (g:=⟨fun _=>g.ρ 0,fun _=>False⟩) n0)
 show WpR Tryz.prog (Code.block 0 (.loop sLp)) _ (a.put (some 23) (.pointer (some ⟨w.heap.size,0,none⟩))) (w.alloc (.mapIter (some bm) clock #[] clock))
 have hal:(w.alloc (.mapIter (some bm) clock #[] clock)).heap[w.heap.size]?=some (.mapIter (some bm) clock #[] clock):=heap_alloc_new w _
 have hes:es.size≤1000:=by
  have h1:=(scM_perm x y hx.1 hy.1).length_eq
  have h2:=scL_len x y
  rw[←hks,List.length_map,Array.length_toList] at h1
  omega
 refine wpR_block (wpR_loop (I:=fun a w'=>∃ts,LpI K0 gNone w0 w.heap.size bm es clock ts a w') (μ:=fun _ w'=>lpMu w.heap.size es w') ⟨[],_,_,m4,?_,?_,?_,?_,.inr rfl,?_,?_,?_,fun _ h=>absurd h List.not_mem_nil,List.nodup_nil⟩ fun a' w' ⟨ts,hI⟩=>lp_round hold hnd hes hkey (fun ts a w' hI hz=>?_) hI)
 ·exact put_getD_same a 23 _ (by omega)
 ·exact fun h=>h.elim (fun h=>Nat.lt_irrefl _ (m.st.klow _ h)) fun h=>Nat.lt_irrefl _ (h▸b3)
 ·exact fun h=>h
 ·exact fun h=>Nat.lt_irrefl _ (m.st.sep 0 _ ⟨_,o0,by simp⟩ h).2.2
 ·rw[alloc_sizeN]; exact Nat.lt_succ_self _
 ·exact hal
 ·exact (heap_alloc_old w _ b3).trans hb
 ·have hts:(∀e∈ts,e∈es.toList)∧(ts.map (·.born)).Nodup:=by
   obtain⟨_,_,_,_,_,_,_,_,_,_,_,q1,q2⟩:=hI
   exact⟨q1,q2⟩
  have hp:(ts.map scDec).Perm (scL x y):=by
   refine ((taken_all hnd hts.1 hts.2 hz).map scDec).trans ?_
   rw[hks]
   exact scM_perm x y hx.1 hy.1
  exact sc_behind hI hp (scL_sorted x y) (fun q hq=>scL_in hq) (by have:=scL_len x y; omega) fin
def scR (l:List SnI) (r:List RdI):List ScI:=bif bdsE l r==0 then scL (tmL l (bndM l.length r) 0) (tmL l (bndM l.length r) 1) else []
noncomputable def mscS:Fsp:=fun _ args k=>match args with
 | [.ro (.recd (.cons (.int .i64) (.cons (.int .i64) (.cons (.recd (.cons (.int .i64) (.cons (.int .i64) .nil))) .nil)))) l,.ro (.recd (.cons (.int .i64) (.cons (.int .i64) (.cons (.int .i64) .nil)))) r]=>k (.ret (.tup [.ro nmSh (scR l r),.int .i64 (bdsE l r)]))
 |_=>none
noncomputable def msdX (e:Int):Fsp:=fun _ args k=>match args with
 | [.ro (.recd (.cons (.int .i64) (.cons (.int .i64) (.cons (.recd (.cons (.int .i64) (.cons (.int .i64) .nil))) .nil)))) l,.ro (.recd (.cons (.int .i64) (.cons (.int .i64) (.cons (.int .i64) .nil)))) r]=>bif bdsE l r==e&&!(bdsE l r==0) then k (.ret (.tup [.nils,.agg [.ro RdSh [],.ro RdSh []],.int .i64 e])) else none
 |_=>none
theorem msdX_ok (e:Int):FspOk Tryz.prog 77 (msdX e) where
 enter:=msdS_ok.enter
 nat:=by intro α args k; unfold msdX; split<;>simp only[cond_bind,Option.bind_some,Option.bind_none]
 calls:=fun args out hout=>msdS_ok.calls args out (by
  unfold msdX at hout
  unfold msdS
  split at hout
  ·rename_i l r
   cases h:bdsE l r==e&&!(bdsE l r==0)
   ·rw[h] at hout; cases hout
   ·rw[h] at hout
    rw[Bool.and_eq_true,Bool.not_eq_true',beq_iff_eq] at h
    simp only[h.2,cond_false,cond_true] at hout ⊢
    rw[h.1]; exact hout
  ·cases hout)
noncomputable def fsM4x (e:Int):FuncId→Option Fsp:=fun g=>if g=77 then some (msdX e) else fsM4 g
theorem fsM4x_ok (e:Int):FsOk (fsM4x e):=fs_cons (msdX_ok e) fsM4_ok
set_option maxRecDepth 100000 in
theorem mse_text2 (N n0:Nat) (α:Type) (l:List SnI) (r:List RdI) (k:AOut→Option α):evFn real tab ((twY (fsM4x 2) spM0).env real tab N (n0+15)) N Tryz.f41 α [.ro SnSh l,.ro RdSh r] k =
 bif bdsE l r==2&&!(bdsE l r==0) then k (.ret (.tup [.ro nmSh [],.int .i64 2])) else none:=by kernel_rfl
set_option maxRecDepth 100000 in
theorem mse_text3 (N n0:Nat) (α:Type) (l:List SnI) (r:List RdI) (k:AOut→Option α):evFn real tab ((twY (fsM4x 3) spM0).env real tab N (n0+15)) N Tryz.f41 α [.ro SnSh l,.ro RdSh r] k =
 bif bdsE l r==3&&!(bdsE l r==0) then k (.ret (.tup [.ro nmSh [],.int .i64 3])) else none:=by kernel_rfl
set_option maxRecDepth 100000 in
theorem mse_text7 (N n0:Nat) (α:Type) (l:List SnI) (r:List RdI) (k:AOut→Option α):evFn real tab ((twY (fsM4x 7) spM0).env real tab N (n0+15)) N Tryz.f41 α [.ro SnSh l,.ro RdSh r] k =
 bif bdsE l r==7&&!(bdsE l r==0) then k (.ret (.tup [.ro nmSh [],.int .i64 7])) else none:=by kernel_rfl
theorem bdsE_one (l:List SnI) (r:List RdI):bdsE l r=0∨bdsE l r=2∨bdsE l r=3∨bdsE l r=7:=by
 unfold bdsE bndE
 cases decide (r.length≤256)
 ·exact .inr (.inr (.inl rfl))
 cases snsB l
 ·exact .inr (.inl rfl)
 cases nB (l.length:Int)&&rdsB (l.length:Int) r
 ·exact .inr (.inl rfl)
 cases bndC (l.length:Int).toNat r
 ·exact .inl rfl
 ·exact .inr (.inr (.inr rfl))
theorem sc_body:Tryz.f41.body=some scC:=by kernel_rfl
theorem sc_shape:Tryz.f41.ntmps=35∧Tryz.f41.results.toList=[.tmp 4,.tmp 5]:=⟨by kernel_rfl,by kernel_rfl⟩
theorem sc_calls {l:List SnI} {r:List RdI} (h:bdsE l r=0) {M:Nat→Prop} {w:World} {cargs:Array Value} (hM:∀b,M b→b<w.heap.size) (hl:2=cargs.size) (hr:∀(j:Nat) c z,([.ro SnSh l,.ro RdSh r]:List AVal)[j]?=some c→cargs[j]?=some z→Rep [] ⟨fun _=>Go.undef,M⟩ w c z) :
  Calls Tryz.prog 41 cargs w (CPost (fun _=>False) w (.ret (.tup [.ro nmSh (scL (tmL l (bndM l.length r) 0) (tmL l (bndM l.length r) 1)),.int .i64 0]))):=by
 have hb:(bdsE l r==0)=true:=by rw[h]; rfl
 have hx:=tm_good h 0
 have hy:=tm_good h 1
 have t1:ev real tab ((twY fsM4k spM0).env real tab 0 0) 0 sR1 ⟨[.ro SnSh l,.ro RdSh r,.undef,.undef,.own 0,.int .i64 0]++List.replicate 29 .undef,[s38 []]⟩ pairE=some (.normal,⟨sc2T l r (bndM l.length r) (tmL l (bndM l.length r) 0) (tmL l (bndM l.length r) 1),sc2H (tmL l (bndM l.length r) 0) (tmL l (bndM l.length r) 1)⟩):=by
  rw[sc_r1',hb]; rfl
 refine (body_midN (K:=fun b=>b<w.heap.size) (g2:=gNone) tabOk Tryz.func41 sc_body (args:=[.ro SnSh l,.ro RdSh r]) (h1:=[.dead])
  (tm1:=aN [(9,.ro nmSh (scL (tmL l (bndM l.length r) 0) (tmL l (bndM l.length r) 1))),(34,.ro nmSh (scL (tmL l (bndM l.length r) 0) (tmL l (bndM l.length r) 1))),(4,.ro nmSh (scL (tmL l (bndM l.length r) 0) (tmL l (bndM l.length r) 1))),(5,.int .i64 0)])
  (vs:=[.ro nmSh (scL (tmL l (bndM l.length r) 0) (tmL l (bndM l.length r) 1)),.int .i64 0]) (by rw[sc_shape.2]; rfl) (st_start hM) hl hr fun a Q m fin=>?_).mono fun e w' hp=>post_of_cv (M:=fun _=>False) rfl hp
 rw[sc_shape.1] at m
 generalize tmL l (bndM l.length r) 0=x at *
 generalize tmL l (bndM l.length r) 1=y at *
 rw[scC_eq]
 refine mid_seq mixedT tabOk (tower_ok mixedT tabOk (twY_ok fsM4k_ok spM0_ok) 0 0) (sc_r0 0 0 l r) m fun a1 w1 K1 g1 _ m1=>?_
 refine mid_seq mixedT tabOk (tower_ok mixedT tabOk (twY_ok fsM4k_ok spM0_ok) 0 0) t1 m1 fun a2 w2 K2 g2 _ m2=>?_
 have m2':Mid _ _ _ (sc2H x y) (aN [(7,.op 3 0),(8,.int .i64 0)]) a2 w2 K2 g2:=m2.weak [7,8]
 refine mid_seq mixedT tabOk (tower_ok mixedT tabOk (twY_ok fsM4_ok spM0_ok) 0 0) (sc_c2 0 0 x y) m2' fun a3 w3 K3 g3 _ m3=>?_
 have m3':Mid _ _ _ (sc2H x y) (aN [(7,.op 3 0)]) a3 w3 K3 g3:=m3.weak [7]
 refine mid_seq mixedT tabOk (tower_ok mixedT tabOk (twY_ok fsM4_ok spM0_ok) 0 0) (sc_r4 0 0 x y) m3' fun a4 w4 K4 g4 _ m4=>?_
 refine wpR_seq (wpR_seq (wpR_region ?_))
 rw[sOs_size.1]
 show wpOpsIn (FW none) 0 Tryz.prog sO5 _ [0,1,2] a4 w4
 refine wpOps_cons sO5_0.1 sO5_0.2.1 ?_
 refine mid_op tabOk (tower_ok mixedT tabOk (twY_ok fsM4_ok spM0_ok) 0 0) (sc_o50 0 0 x y) m4 fun z5 w5 g5 _ m5=>?_
 rw[sO5_0.2.2] at m5 ⊢
 have m5':Mid _ _ _ (sc2H x y++[s38 []]) (aN [(9,.own 4),(21,.agg [.ro RdSh x,.ro RdSh y])]) (a4.put (some 21) z5) w5 K4 g5:=m5.weak [9,21]
 generalize a4.put (some 21) z5=a5 at m5'
 have o4:(sc2H x y++[s38 []])[4]?=some (s38 []):=rfl
 have r9:Rep (sc2H x y++[s38 []]) g5 w5 (.own 4) (a5.tmps.getD 9 Go.undef):=m5'.tr.get 9
 have r21:Rep (sc2H x y++[s38 []]) g5 w5 (.agg [.ro RdSh x,.ro RdSh y]) (a5.tmps.getD 21 Go.undef):=m5'.tr.get 21
 obtain⟨v9,c9⟩:=own_val r9 o4
 have q21:Rep [s38 []] ⟨fun _=>g5.ρ 4,g5.M⟩ w5 (.agg [.ro RdSh x,.ro RdSh y]) (a5.tmps.getD 21 Go.undef):=by
  generalize a5.tmps.getD 21 Go.undef=v at r21
  cases r21 with
  |agg _ arr hl hr=>
   refine .agg _ arr hl fun j c z hc hz=>?_
   have:=hr j c z hc hz
   match j,hc with
   |0,hc=>simp at hc; subst hc; exact rep_roM rd_flat this fun _ h=>h
   |1,hc=>simp at hc; subst hc; exact rep_roM rd_flat this fun _ h=>h
   |j+2,hc=>simp at hc
 have m6:=m5'.one (i:=4) (e:=nmSh) (by decide) nm_flat o4 (tm':=aN [(9,.own 0),(21,.agg [.ro RdSh x,.ro RdSh y])]) (trep_two m5'.tr.1.symm (by decide) (by decide) (by decide) (.own 0 _ (Here.of (b:=s38 []) rfl (by simp)) c9 fun _ _ _ _ _=>v9) q21)
 refine wpOps_cons sO5_1.1 sO5_1.2.1 ?_
 refine mid_op tabOk (tower_ok mixedT tabOk (twY_ok fsM4_ok spM0_ok) 20 14) (sc_o51 0 hx hy) m6 fun z7 w7 g7 _ m7=>?_
 rw[sO5_1.2.2] at m7 ⊢
 exact wpOps_cons sO5_2.1 sO5_2.2.1 (sc_loop hx hy m7 fin)
theorem err_new {M:Nat→Prop} {w:World} {e:Ending} {w':World} {n:Int} (h:CPost M w (.ret (.tup [.ro nmSh [],.int .i64 n])) e w'):CPost (fun _=>False) w (.ret (.tup [.ro nmSh [],.int .i64 n])) e w':=by
 obtain⟨M',m1,m2,m3,hb,z,e1,e2⟩:=h
 refine⟨fun _=>False,fun _ h=>h,fun _ h=>h.elim,fun _ h=>h.elim,hb,z,e1,?_⟩
 cases e2 with
 |tup _ arr hl hr=>
  refine .tup _ arr hl fun j c x hc hx=>?_
  have:=hr j c x hc hx
  match j,hc with
  |0,hc=>
   simp at hc; subst hc
   cases this with
   |ro0 _ p c h1 h2=>exact .ro0 nmSh p c h1 h2
   |ro1 _ _ b o c us h0=>exact absurd h0 (Nat.lt_irrefl 0)
  |1,hc=>
   simp at hc; subst hc
   cases this; exact .int _ _
  |j+2,hc=>simp at hc
theorem mscS_new:FspNew Tryz.prog 41 mscS where
 enter:=enters_of Tryz.func41 (by kernel_rfl) sc_body
 nat:=by intro α args k; unfold mscS; split<;>rfl
 calls:=fun args out hout M w cargs hM hl hr=>by
  unfold mscS at hout
  split at hout
  ·rename_i l r
   cases hout
   by_cases h:bdsE l r=0
   ·have e:scR l r=scL (tmL l (bndM l.length r) 0) (tmL l (bndM l.length r) 1):=by unfold scR; rw[h]; rfl
    rw[e,h]
    exact sc_calls h hM hl hr
   ·have h1:(bdsE l r==0)=false:=by simpa using h
    have e:scR l r=[]:=by unfold scR; rw[h1]; rfl
    rw[e]
    have en:∀args w,(callFunc 41 args).run Tryz.prog w=.ok (.enter 41 args) w:=enters_of Tryz.func41 (by kernel_rfl) sc_body
    rcases bdsE_one l r with h0|h0|h0|h0
    ·exact absurd h0 h
    ·rw[h0]; exact ((fn_ok mixedT tabOk (tower_ok mixedT tabOk (twY_ok (fsM4x_ok 2) spM0_ok) 0 15) 0 Tryz.func41 en).calls _ _ ((mse_text2 0 0 _ l r some).trans (by rw[h0]; rfl)) M w cargs hM hl hr).mono fun _ _=>err_new
    ·rw[h0]; exact ((fn_ok mixedT tabOk (tower_ok mixedT tabOk (twY_ok (fsM4x_ok 3) spM0_ok) 0 15) 0 Tryz.func41 en).calls _ _ ((mse_text3 0 0 _ l r some).trans (by rw[h0]; rfl)) M w cargs hM hl hr).mono fun _ _=>err_new
    ·rw[h0]; exact ((fn_ok mixedT tabOk (tower_ok mixedT tabOk (twY_ok (fsM4x_ok 7) spM0_ok) 0 15) 0 Tryz.func41 en).calls _ _ ((mse_text7 0 0 _ l r some).trans (by rw[h0]; rfl)) M w cargs hM hl hr).mono fun _ _=>err_new
  ·cases hout
theorem mscS_ok:FspOk Tryz.prog 41 mscS:=mscS_new.ok
noncomputable def fsM5:FuncId→Option Fsp:=fun g=>if g=41 then some mscS else fsM4 g
theorem fsM5_ok:FsOk fsM5:=fs_cons mscS_ok fsM4_ok
def sdB (l:List SnI) (r:List RdI):List RdI:=bif bdsE l r==0 then bndM l.length r else []
def sdT (l:List SnI) (r:List RdI) (t:Int):List RdI:=bif bdsE l r==0 then tmL l (bndM l.length r) t else []
noncomputable def msdU:Fsp:=fun _ args k=>match args with
 | [.ro (.recd (.cons (.int .i64) (.cons (.int .i64) (.cons (.recd (.cons (.int .i64) (.cons (.int .i64) .nil))) .nil)))) l,.ro (.recd (.cons (.int .i64) (.cons (.int .i64) (.cons (.int .i64) .nil)))) r]=>k (.ret (.tup [.ro RdSh (sdB l r),.agg [.ro RdSh (sdT l r 0),.ro RdSh (sdT l r 1)],.int .i64 (bdsE l r)]))
 |_=>none
theorem msdU_ok:FspOk Tryz.prog 77 msdU where
 enter:=msdS_ok.enter
 nat:=by intro α args k; unfold msdU; split<;>rfl
 calls:=fun args out hout M w cargs hM hl hr=>by
  unfold msdU at hout
  split at hout
  ·rename_i l r
   cases hout
   cases h:bdsE l r==0
   ·have c:=msdS_ok.calls [.ro SnSh l,.ro RdSh r] (.ret (.tup [.nils,.agg [.ro RdSh [],.ro RdSh []],.int .i64 (bdsE l r)])) (by
     show (bif bdsE l r==0 then _ else _)=_
     rw[h]; rfl) M w cargs hM hl hr
    refine c.mono fun e w' hp=>?_
    obtain⟨M',p1,p2,p3,p4,x,p5,p6⟩:=hp
    refine⟨M',p1,p2,p3,p4,x,p5,?_⟩
    unfold sdB sdT
    rw[h]
    cases p6 with
    |tup _ arr hl hr=>
     refine .tup _ arr hl fun j c z hc hz=>?_
     match j,hc with
     |0,hc=>
      simp at hc; subst hc
      have:=hr 0 .nils z rfl hz
      cases this
      exact .ro0 RdSh none 0 (Nat.zero_le _) fun _=>rfl
     |1,hc=>exact hr 1 c z hc hz
     |2,hc=>exact hr 2 c z hc hz
     |j+3,hc=>simp at hc
   ·unfold sdB sdT
    rw[h]
    have h0:bdsE l r=0:=by simpa using h
    exact msdS_ok.calls [.ro SnSh l,.ro RdSh r] _ (by
     show (bif bdsE l r==0 then _ else _)=_
     rw[h,h0]; rfl) M w cargs hM hl hr
  ·cases hout
noncomputable def fsM6:FuncId→Option Fsp:=fun g=>
 if g=77 then some msdU else
 if g=66 then some scaleS else
 fsM5 g
theorem fsM6_ok:FsOk fsM6:=
 fs_cons msdU_ok <|
 fs_cons scaleS_ok <|
 fsM5_ok
/-! Points. -/
/-! Doubts. -/
abbrev stE (l:List SnI) (i:Int):SnI:=l.getD i.toNat (0,0,(0,0,()),())
/-! Read. -/
noncomputable def fsM7:FuncId→Option Fsp:=fun g=>
 fsM6 g
theorem fsM7_ok:FsOk fsM7:=
 fsM6_ok
noncomputable def fsQ0:FuncId→Option Fsp:=fun g=>
 if g=76 then some flenS else
 fsM7 g
theorem fsQ0_ok:FsOk fsQ0:=
 fs_cons flenS_ok <|
 fsM7_ok
noncomputable def exE (l:List SnI) (i:Int):RdI:=(i,lenV (stE l i).2.2.1.1 (stE l i).2.2.1.2.1 1,lenV (stE l i).2.2.1.1 (stE l i).2.2.1.2.1 2,())
noncomputable def exF {α:Type} (l:List SnI) (x:List RdI × Int × Unit):Option (LRes (List RdI × Int × Unit) α):=
 bif decide (x.2.1<(l.length:Int)) then
  if 0≤x.2.1∧x.2.1<(l.length:Int) then
   if (x.1.length+[exE l x.2.1].length)*24≤room then some (.cont (x.1++[exE l x.2.1],IntKind.i64.wrap (x.2.1+1),())) else none
  else none
 else some (.brk 0 (x.1,x.2.1,()))
set_option maxRecDepth 100000 in
theorem mex_text (N n0:Nat) (α:Type) (l:List SnI) (k:AOut→Option α):evFn real tab ((twY fsQ0 spM0).env real tab N (n0+12)) N Tryz.f40 α [.ro SnSh l] k =
 bif snsE l != 0 then k (.ret (.tup [.ro RdSh [],.int .i64 (snsE l)])) else afterL (iterL N (exF l) ([],0,())) fun id y=>if id=0 then k (.ret (.tup [.ro RdSh y.1,.int .i64
 0])) else none:=by kernel_rfl
noncomputable def exN (l:List SnI) (i:Nat):List RdI:=(List.range i).map fun k:Nat=>exE l (k:Int)
theorem exN_succ (l:List SnI) (i:Nat):exN l (i+1)=exN l i++[exE l (i:Int)]:=by
 unfold exN
 rw[List.range_succ,List.map_append]; rfl
theorem exN_len (l:List SnI) (i:Nat):(exN l i).length=i:=by
 unfold exN
 rw[List.length_map,List.length_range]
noncomputable def exL (l:List SnI):List RdI:=bif snsB l then exN l l.length else []
theorem ex_run {α:Type} {f:List RdI × Int × Unit→Option (LRes (List RdI × Int × Unit) α)} (l:List SnI) (hl:l.length≤16)
  (hf:∀L i,i<l.length→(L.length+1)*24≤room→f (L,(i:Int),())=some (.cont (L++[exE l (i:Int)],((i+1:Nat):Int),()))) (hend:∀L,f (L,(l.length:Int),())=some (.brk 0 (L,(l.length:Int),()))) (K:Nat→List RdI × Int × Unit→Option α) :
  afterL (iterL 20 f ([],0,())) K=K 0 (exN l l.length,(l.length:Int),()):=
 count_loop (f:=f) (fun i=>(exN l i,(i:Int),())) l.length (fun i hi=>by
  rw[exN_succ]
  exact hf _ i hi (by rw[exN_len]; simp only[room]; omega)) (y:=(exN l l.length,(l.length:Int),())) (b:=0) (hend _) (by omega)
theorem exF_eq {α:Type} (l:List SnI) (hl:l.length≤16) (L:List RdI) (i:Nat) (hi:i<l.length) (hr:(L.length+1)*24≤room):exF (α:=α) l (L,(i:Int),())=some (.cont (L++[exE l (i:Int)],((i+1:Nat):Int),())):=by
 have hmx:l.length≤maxLen:=by have:maxLen=9223372036854775807:=rfl; omega
 unfold exF
 simp only[lt_len hi,cond_true,in_len hi,if_pos,and_self,wrap_next hi hmx,List.length_cons,List.length_nil,Nat.zero_add,hr,decide_true]
noncomputable def exS:Fsp:=fun _ args k=>match args with
 | [.ro (.recd (.cons (.int .i64) (.cons (.int .i64) (.cons (.recd (.cons (.int .i64) (.cons (.int .i64) .nil))) .nil)))) l]=>k (.ret (.tup [.ro RdSh (exL l),.int .i64 (snsE l)]))
 |_=>none
theorem mexS_ok:FspOk Tryz.prog 40 exS:=tower_Y fsQ0_ok spM0_ok ⟨Tryz.func40,fun _ _=>by kernel_rfl⟩ (by intro α args k; unfold exS; split<;>rfl) fun args out hSm hEq=>by
 unfold exS at hEq
 split at hEq
 ·rename_i l
  refine⟨20,12,(mex_text 20 0 AOut l some).trans (Eq.trans ?_ hEq)⟩
  unfold exL snsE
  cases h:snsB l
  ·rfl
  ·have hl:=(snsB_at h).1
   refine (ex_run (f:=exF l) l hl (exF_eq l hl) (fun L=>by unfold exF; simp only[not_lt_len,cond_false]) _).trans ?_
   rfl
 ·cases hEq
/-! Check and Read of the reference. -/
/-! The score of distances. -/
def dsM (l:List SnI) (d:List Int) (t:Int) (i:Nat):Int:=((List.range i).filter fun k=>(l.getD k snD).1==t).foldl (fun a k=>min a (d.getD k 0)) 129368065
theorem dsM_succ (l:List SnI) (d:List Int) (t:Int) (i:Nat):dsM l d t (i+1)=bif (l.getD i snD).1==t then min (dsM l d t i) (d.getD i 0) else dsM l d t i:=by
 unfold dsM
 rw[List.range_succ,List.filter_append,List.foldl_append]
 have e:List.filter (fun k=>(l.getD k snD).1==t) [i]=bif (l.getD i snD).1==t then [i] else []:=by
  rw[List.filter_cons]
  cases (l.getD i snD).1==t<;>rfl
 rw[e]
 cases (l.getD i snD).1==t<;>rfl
def dsC (l:List SnI) (d:List Int) (t m:Int) (i:Nat):Nat:=(List.range i).countP fun k=>(l.getD k snD).1==t&&decide (d.getD k 0<m)
def dsS (l:List SnI) (d:List Int):ScI:=
 bif dsM l d 0 l.length==dsM l d 1 l.length then (-1,0,()) else
 bif decide (dsM l d 1 l.length<dsM l d 0 l.length) then (1,(dsC l d 1 (dsM l d 0 l.length) l.length:Int),()) else (0,(dsC l d 0 (dsM l d 1 l.length) l.length:Int),())
/-! Is a score among some? -/
theorem dsM_le (l:List SnI) (d:List Int) (t:Int):∀i,dsM l d t i≤129368065∧(∀k,k<i→(l.getD k snD).1=t→dsM l d t i≤d.getD k 0)∧(dsM l d t i=129368065∨∃k,k<i∧(l.getD k snD).1=t∧dsM l d t i=d.getD k 0)
 |0=>⟨Int.le_refl _,fun k h=>absurd h (Nat.not_lt_zero k),.inl rfl⟩
 |i+1=>by
  obtain⟨h1,h2,h3⟩:=dsM_le l d t i
  rw[dsM_succ]
  cases ht:(l.getD i snD).1==t
  ·refine⟨h1,fun k hk e=>?_,?_⟩
   ·rcases Nat.lt_succ_iff_lt_or_eq.1 hk with h|rfl
    ·exact h2 k h e
    ·rw[e] at ht; simp at ht
   ·rcases h3 with h|⟨k,q1,q2,q3⟩
    ·exact .inl h
    ·exact .inr ⟨k,by omega,q2,q3⟩
  ·rw[cond_true]
   have ht':(l.getD i snD).1=t:=by simpa using ht
   refine⟨by omega,fun k hk e=>?_,?_⟩
   ·rcases Nat.lt_succ_iff_lt_or_eq.1 hk with h|rfl
    ·have:=h2 k h e; omega
    ·omega
   ·by_cases hm:dsM l d t i≤d.getD i 0
    ·rw[Int.min_eq_left hm]
     rcases h3 with h|⟨k,q1,q2,q3⟩
     ·exact .inl h
     ·exact .inr ⟨k,by omega,q2,q3⟩
    ·rw[Int.min_eq_right (by omega)]
     exact .inr ⟨i,Nat.lt_succ_self i,ht',rfl⟩
theorem foldl_min (f:RdI→Int):∀(l:List RdI) (a:Int),l.foldl (fun a r=>min a (f r)) a≤a∧(∀r∈l,l.foldl (fun a r=>min a (f r)) a≤f r)∧(l.foldl (fun a r=>min a (f r)) a=a∨∃r∈l,l.foldl (fun a r=>min a (f r)) a=f r)
 | [],a=>⟨Int.le_refl _,fun r h=>absurd h List.not_mem_nil,.inl rfl⟩
 |x::l,a=>by
  obtain⟨h1,h2,h3⟩:=foldl_min f l (min a (f x))
  simp only[List.foldl_cons]
  refine⟨by omega,fun r hr=>?_,?_⟩
  ·rcases List.mem_cons.1 hr with rfl|h
   ·omega
   ·exact h2 r h
  ·rcases h3 with h|⟨r,hr,h⟩
   ·by_cases hm:a≤f x
    ·exact .inl (by rw[h]; omega)
    ·exact .inr ⟨x,List.mem_cons_self,by rw[h]; omega⟩
   ·exact .inr ⟨r,List.mem_cons_of_mem _ hr,h⟩
def dIn (l:List SnI) (b:List RdI) (d:List Int):Prop:=∀k,k<l.length→(b.getD k rdD).lo≤d.getD k 0∧d.getD k 0≤(b.getD k rdD).hi
theorem tmL_mem {l:List SnI} {b:List RdI} {t:Int} {r:RdI}:r∈tmL l b t↔∃k,k<l.length∧(l.getD k snD).1=t∧b.getD k rdD=r:=by
 unfold tmL tmN
 rw[List.mem_map]
 constructor
 ·rintro⟨k,hk,e⟩
  obtain⟨h1,h2⟩:=List.mem_filter.1 hk
  exact⟨k,List.mem_range.1 h1,by simpa using h2,e⟩
 ·rintro⟨k,h1,h2,e⟩
  exact⟨k,List.mem_filter.2 ⟨List.mem_range.2 h1,by simpa using h2⟩,e⟩
theorem minLo_le {l:List SnI} {b:List RdI} {d:List Int} (h:dIn l b d) (t:Int):minLo (tmL l b t)≤dsM l d t l.length:=by
 obtain⟨h1,h2,h3⟩:=dsM_le l d t l.length
 obtain⟨g1,g2,g3⟩:=foldl_min (fun r=>r.lo) (tmL l b t) 129368065
 unfold minLo
 rcases h3 with e|⟨k,k1,k2,k3⟩
 ·rw[e]; exact g1
 ·have:=g2 _ (tmL_mem.2 ⟨k,k1,k2,rfl⟩)
  have:=h k k1
  omega
theorem le_minHi {l:List SnI} {b:List RdI} {d:List Int} (h:dIn l b d) (t:Int):dsM l d t l.length≤minHi (tmL l b t)∨(dsM l d t l.length=129368065∧awB (tmL l b t)=true):=by
 obtain⟨h1,h2,h3⟩:=dsM_le l d t l.length
 obtain⟨g1,g2,g3⟩:=foldl_min (fun r=>r.hi) (tmL l b t) 129368064
 by_cases hm:dsM l d t l.length≤minHi (tmL l b t)
 ·exact .inl hm
 ·right
  rcases g3 with e|⟨r,hr,e⟩
  ·have e':minHi (tmL l b t)=129368064:=e
   have h5:dsM l d t l.length=129368065:=by omega
   refine⟨h5,?_⟩
   unfold awB
   rw[Bool.not_eq_true',List.any_eq_false]
   intro q hq
   rw[decide_eq_true_eq]
   obtain⟨k,k1,k2,rfl⟩:=tmL_mem.1 hq
   have:=h2 k k1 k2
   have:=h k k1
   omega
  ·exfalso
   obtain⟨k,k1,k2,rfl⟩:=tmL_mem.1 hr
   have e':minHi (tmL l b t)=(b.getD k rdD).hi:=e
   have:=h2 k k1 k2
   have:=h k k1
   omega
theorem must_tm (l:List SnI) (b:List RdI) (t m:Int):mustN (tmL l b t) m=(List.range l.length).countP fun k=>(l.getD k snD).1==t&&decide ((b.getD k rdD).hi≤m):=by
 unfold mustN tmL tmN
 rw[List.countP_map,List.countP_filter]
 refine List.countP_congr fun k _=>?_
 simp only[Function.comp]
 rw[Bool.and_comm]
theorem can_tm (l:List SnI) (b:List RdI) (t m:Int):canN (tmL l b t) m=(List.range l.length).countP fun k=>(l.getD k snD).1==t&&decide ((b.getD k rdD).lo≤m):=by
 unfold canN tmL tmN
 rw[List.countP_map,List.countP_filter]
 refine List.countP_congr fun k _=>?_
 simp only[Function.comp]
 rw[Bool.and_comm]
theorem count_in {l:List SnI} {b:List RdI} {d:List Int} (h:dIn l b d) (t m:Int):mustN (tmL l b t) (m-1)≤dsC l d t m l.length∧dsC l d t m l.length≤canN (tmL l b t) (m-1):=by
 rw[must_tm,can_tm]
 unfold dsC
 constructor
 ·refine List.countP_mono_left fun k hk hp=>?_
  rw[Bool.and_eq_true,decide_eq_true_eq] at hp ⊢
  have:=h k (List.mem_range.1 hk)
  exact⟨hp.1,by omega⟩
 ·refine List.countP_mono_left fun k hk hp=>?_
  rw[Bool.and_eq_true,decide_eq_true_eq] at hp ⊢
  have:=h k (List.mem_range.1 hk)
  exact⟨hp.1,by omega⟩
theorem count_pos {l:List SnI} {d:List Int} {t m:Int} (h:dsM l d t l.length<m) (hm:m≤129368065):1≤dsC l d t m l.length:=by
 obtain⟨h1,h2,h3⟩:=dsM_le l d t l.length
 rcases h3 with e|⟨k,k1,k2,k3⟩
 ·omega
 ·unfold dsC
  refine List.countP_pos_iff.2 ⟨k,List.mem_range.2 k1,?_⟩
  rw[Bool.and_eq_true,decide_eq_true_eq,beq_iff_eq]
  exact⟨k2,by omega⟩
theorem greatest (x0 L:Int) (h0:x0≤L):∀X:List Int,∃y,(y=x0∨y∈X)∧x0≤y∧y≤L∧∀z∈X,z≤L→z≤y
 | []=>⟨x0,.inl rfl,Int.le_refl _,h0,fun z h=>absurd h List.not_mem_nil⟩
 |q::X=>by
  obtain⟨y,h1,h2,h3,h4⟩:=greatest x0 L h0 X
  by_cases hq:q≤L∧y<q
  ·refine⟨q,.inr List.mem_cons_self,by omega,hq.1,fun z hz hl=>?_⟩
   rcases List.mem_cons.1 hz with rfl|h
   ·exact Int.le_refl _
   ·have:=h4 z h hl; omega
  ·refine⟨y,h1.imp id fun h=>List.mem_cons_of_mem _ h,h2,h3,fun z hz hl=>?_⟩
   rcases List.mem_cons.1 hz with rfl|h
   ·omega
   ·exact h4 z h hl
theorem limit_same (s o:List RdI) (m:Int) (h1:minLo o≤m) (h2:m≤minHi o):∃d∈lims s o,mustN s d=mustN s (m-1)∧canN s d=canN s (m-1):=by
 obtain⟨y,hy1,hy2,hy3,hy4⟩:=greatest (minLo o-1) (m-1) (by omega) (s.flatMap (limR o))
 have inL:∀r∈s,∀z,(z=r.lo∨z=r.hi)→z≤m-1→z≤y:=fun r hr z hz hl=>by
  by_cases hz1:z≤minLo o-1
  ·omega
  ·refine hy4 z (List.mem_flatMap.2 ⟨r,hr,?_⟩) hl
   unfold limR
   refine List.mem_filter.2 ⟨?_,?_⟩
   ·rcases hz with rfl|rfl
    ·exact List.mem_cons_self
    ·exact List.mem_cons_of_mem _ List.mem_cons_self
   ·rw[Bool.and_eq_true,decide_eq_true_eq,decide_eq_true_eq]; omega
 refine⟨y,?_,?_,?_⟩
 ·unfold lims
  rw[decide_eq_true (show minLo o≤minHi o by omega),cond_true]
  refine List.mem_append_right _ ?_
  rcases hy1 with rfl|h
  ·exact List.mem_cons_self
  ·exact List.mem_cons_of_mem _ h
 ·unfold mustN
  refine List.countP_congr fun r hr=>?_
  rw[decide_eq_true_eq,decide_eq_true_eq]
  exact⟨fun h=>by omega,fun h=>inL r hr _ (.inr rfl) h⟩
 ·unfold canN
  refine List.countP_congr fun r hr=>?_
  rw[decide_eq_true_eq,decide_eq_true_eq]
  exact⟨fun h=>by omega,fun h=>inL r hr _ (.inl rfl) h⟩
theorem score_team {l:List SnI} {b:List RdI} {d:List Int} (h:dIn l b d) (hl:l.length≤16) (t o:Int) (hlt:dsM l d t l.length<dsM l d o l.length):(t,(dsC l d t (dsM l d o l.length) l.length:Int),())∈scT (tmL l b t) (tmL l b o) t:=by
 have h16:(tmL l b t).length≤16:=Nat.le_trans (tmN_len _ _ _ _) hl
 refine (scT_mem _ _ t h16 _).1 ?_
 obtain⟨c1,c2⟩:=count_in h t (dsM l d o l.length)
 have hM:=(dsM_le l d o l.length).1
 have c0:=count_pos hlt hM
 rcases le_minHi h o with hh|⟨hh,ha⟩
 ·obtain⟨z,z1,z2,z3⟩:=limit_same (tmL l b t) (tmL l b o) (dsM l d o l.length) (minLo_le h o) hh
  exact⟨z,z1,_,by omega,by omega,rfl⟩
 ·refine⟨129368064,?_,_,?_,?_,rfl⟩
  ·unfold lims
   rw[ha,cond_true]
   exact List.mem_append_left _ (List.mem_singleton.2 rfl)
  ·rw[hh] at c1 c0 ⊢
   have e:(129368065:Int)-1=129368064:=by omega
   rw[e] at c1
   omega
  ·rw[hh] at c2 ⊢
   have e:(129368065:Int)-1=129368064:=by omega
   rw[e] at c2
   exact c2
theorem score_in {l:List SnI} {b:List RdI} {d:List Int} (h:dIn l b d) (hl:l.length≤16):dsS l d∈scL (tmL l b 0) (tmL l b 1):=by
 unfold dsS
 cases he:dsM l d 0 l.length==dsM l d 1 l.length
 ·rw[cond_false]
  have hne:dsM l d 0 l.length≠dsM l d 1 l.length:=by
   intro e; rw[e] at he; simp at he
  by_cases hlt:dsM l d 1 l.length<dsM l d 0 l.length
  ·rw[decide_eq_true hlt,cond_true]
   exact List.mem_append_right _ (List.mem_append_right _ (score_team h hl 1 0 hlt))
  ·rw[decide_eq_false hlt,cond_false]
   exact List.mem_append_right _ (List.mem_append_left _ (score_team h hl 0 1 (by omega)))
 ·rw[cond_true]
  have e:dsM l d 0 l.length=dsM l d 1 l.length:=by simpa using he
  have ht:tieB (tmL l b 0) (tmL l b 1)=true:=by
   unfold tieB
   rw[Bool.or_eq_true,Bool.and_eq_true,decide_eq_true_eq]
   have a1:=minLo_le h 0
   have a2:=minLo_le h 1
   rcases le_minHi h 0 with h0|⟨h0,q0⟩<;>rcases le_minHi h 1 with h1|⟨h1,q1⟩
   ·right; omega
   ·have:=(foldl_min (fun r=>r.hi) (tmL l b 0) 129368064).1
    have:minHi (tmL l b 0)≤129368064:=this
    omega
   ·have:=(foldl_min (fun r=>r.hi) (tmL l b 1) 129368064).1
    have:minHi (tmL l b 1)≤129368064:=this
    omega
   ·exact .inl ⟨q0,q1⟩
  unfold scL
  rw[ht,cond_true]
  exact List.mem_append_left _ (List.mem_singleton.2 rfl)
theorem dn_up {x y:Int} (hx:-6553600000≤x∧x≤6553600000) (hy:-6553600000≤y∧y≤6553600000):lenV x y 1=rt (sq2 x y)∧lenV x y 2=rtN (sq2 x y) 2∧0≤rt (sq2 x y)∧rt (sq2 x y)*rt (sq2 x y)≤sq2 x y∧sq2 x y≤rtN (sq2 x y) 2*rtN (sq2 x y) 2∧rt (sq2 x y)≤rtN (sq2 x y) 2∧rtN (sq2 x y) 2≤70368744177664:=by
 have ax:0≤ab x∧ab x≤6553600000:=by unfold ab; split<;>omega
 have ay:0≤ab y∧ab y≤6553600000:=by unfold ab; split<;>omega
 have m1:0≤ab x*ab x∧ab x*ab x≤6553600000*6553600000:=⟨Int.mul_nonneg ax.1 ax.1,Int.mul_le_mul ax.2 ax.2 ax.1 (by omega)⟩
 have m2:0≤ab y*ab y∧ab y*ab y≤6553600000*6553600000:=⟨Int.mul_nonneg ay.1 ay.1,Int.mul_le_mul ay.2 ay.2 ay.1 (by omega)⟩
 have hs:0≤sq2 x y∧sq2 x y≤85899345920000000000:=by unfold sq2; omega
 obtain⟨r0,r1,r2,_⟩:=rt_spec hs.1 (by omega)
 have r3:rt (sq2 x y)≤70368744177663:=by
  refine Int.not_lt.1 fun h=>?_
  have:70368744177664*70368744177664≤rt (sq2 x y)*rt (sq2 x y):=Int.mul_le_mul (by omega) (by omega) (by omega) r0
  omega
 have hB1:lenB x y 1=true:=by
  unfold lenB
  rw[ok_iff.2 (show -70368744177664≤x∧x≤70368744177664 by omega),ok_iff.2 (show -70368744177664≤y∧y≤70368744177664 by omega)]; rfl
 have hB2:lenB x y 2=true:=by
  unfold lenB
  rw[ok_iff.2 (show -70368744177664≤x∧x≤70368744177664 by omega),ok_iff.2 (show -70368744177664≤y∧y≤70368744177664 by omega)]; rfl
 have e1:rtN (sq2 x y) 1=rt (sq2 x y):=Int.add_zero _
 have e2:rtN (sq2 x y) 2=rt (sq2 x y)+bif !(rt (sq2 x y)*rt (sq2 x y)==sq2 x y) then 1 else 0:=rfl
 have hf:∀n:Int,n≤70368744177664→fxV false n=n:=fun n h=>by
  unfold fxV fxB
  rw[decide_eq_true h]; rfl
 have e3:rt (sq2 x y)≤rtN (sq2 x y) 2∧rtN (sq2 x y) 2≤rt (sq2 x y)+1∧sq2 x y≤rtN (sq2 x y) 2*rtN (sq2 x y) 2:=by
  rw[e2]
  cases hq:rt (sq2 x y)*rt (sq2 x y)==sq2 x y
  ·refine⟨by simp only[Bool.not_false,cond_true]; omega,by simp only[Bool.not_false,cond_true]; omega,?_⟩
   show _≤(rt (sq2 x y)+1)*(rt (sq2 x y)+1)
   omega
  ·rw[beq_iff_eq] at hq
   refine⟨by simp only[Bool.not_true,cond_false]; omega,by simp only[Bool.not_true,cond_false]; omega,?_⟩
   show _≤(rt (sq2 x y)+0)*(rt (sq2 x y)+0)
   rw[Int.add_zero,hq]
   exact Int.le_refl _
 refine⟨?_,?_,r0,r1,e3.2.2,e3.1,by omega⟩
 ·unfold lenV
  rw[hB1,cond_true,e1,hf _ (by omega)]
 ·unfold lenV
  rw[hB2,cond_true,hf _ (by omega)]
/-! Bounds of readings. -/
theorem bLo_le (k:Nat) (c:Int) (h0:0≤c) (l:List RdI) (h:∀r∈l,r.1=(k:Int)→r.lo≤c):bLo l k≤c:=by
 unfold bLo
 have:∀(l:List RdI) (a:Int),(∀r∈l,r.1=(k:Int)→r.lo≤c)→a≤c→l.foldl (fun a r=>if r.1=(k:Int) then max a r.lo else a) a≤c:=by
  intro l
  induction l with
  |nil=>intro a _ h; exact h
  |cons r l ih=>
   intro a hr ha
   refine ih _ (fun q hq=>hr q (List.mem_cons_of_mem _ hq)) ?_
   show (if r.1=(k:Int) then max a r.lo else a)≤c
   have:=hr r List.mem_cons_self
   split
   ·rename_i e; have:=this e; omega
   ·exact ha
 exact this l 0 h h0
theorem le_bHi (k:Nat) (c:Int) (h0:c≤70368744177664) (l:List RdI) (h:∀r∈l,r.1=(k:Int)→c≤r.hi):c≤bHi l k:=by
 unfold bHi
 have:∀(l:List RdI) (a:Int),(∀r∈l,r.1=(k:Int)→c≤r.hi)→c≤a→c≤l.foldl (fun a r=>if r.1=(k:Int) then min a r.hi else a) a:=by
  intro l
  induction l with
  |nil=>intro a _ h; exact h
  |cons r l ih=>
   intro a hr ha
   refine ih _ (fun q hq=>hr q (List.mem_cons_of_mem _ hq)) ?_
   show c≤(if r.1=(k:Int) then min a r.hi else a)
   have:=hr r List.mem_cons_self
   split
   ·rename_i e; have:=this e; omega
   ·exact ha
 exact this l _ h h0
theorem exL_len {l:List SnI} (h:snsB l=true):(exL l).length=l.length:=by
 unfold exL
 rw[h,cond_true,exN_len]
theorem sn_in {l:List SnI} (h:snsB l=true) {k:Nat} (hk:k<l.length):(-6553600000≤(l.getD k snD).x∧(l.getD k snD).x≤6553600000)∧(-6553600000≤(l.getD k snD).y∧(l.getD k snD).y≤6553600000):=by
 have:=(snsB_at h).2 k hk
 unfold snV at this
 simp only[Bool.and_eq_true,decide_eq_true_eq] at this
 exact⟨this.1,this.2.1⟩
theorem ex_at (l:List SnI) (k:Nat):exE l (k:Int)=((k:Int),lenV (l.getD k snD).x (l.getD k snD).y 1,lenV (l.getD k snD).x (l.getD k snD).y 2,()):=rfl
theorem ex_in {l:List SnI} (h:snsB l=true) {k:Nat} (hk:k<l.length):0≤(exE l (k:Int)).lo∧(exE l (k:Int)).lo≤(exE l (k:Int)).hi∧(exE l (k:Int)).hi≤70368744177664:=by
 obtain⟨hx,hy⟩:=sn_in h hk
 obtain⟨d1,d2,d3,_,_,d6,d7⟩:=dn_up hx hy
 rw[ex_at]
 show 0≤lenV _ _ 1∧lenV _ _ 1≤lenV _ _ 2∧lenV _ _ 2≤_
 rw[d1,d2]
 exact⟨d3,d6,d7⟩
theorem exL_mem {l:List SnI} (h:snsB l=true) {r:RdI} (hr:r∈exL l):∃k:Nat,k<l.length∧exE l (k:Int)=r:=by
 unfold exL exN at hr
 rw[h,cond_true] at hr
 obtain⟨k,hk,e⟩:=List.mem_map.1 hr
 exact⟨k,List.mem_range.1 hk,e⟩
theorem ex_bds {l:List SnI} (h:snsB l=true):bdsE l (exL l)=0∧∀k,k<l.length→bLo (exL l) k≤(exE l (k:Int)).lo∧(exE l (k:Int)).hi≤bHi (exL l) k:=by
 have hl:=(snsB_at h).1
 have lo:∀k,k<l.length→bLo (exL l) k≤(exE l (k:Int)).lo:=fun k hk=>bLo_le k _ (ex_in h hk).1 _ fun r hr e=>by
  obtain⟨j,hj,rfl⟩:=exL_mem h hr
  have e':(j:Int)=k:=e
  have:j=k:=by omega
  subst this
  exact Int.le_refl _
 have hi:∀k,k<l.length→(exE l (k:Int)).hi≤bHi (exL l) k:=fun k hk=>le_bHi k _ (ex_in h hk).2.2 _ fun r hr e=>by
  obtain⟨j,hj,rfl⟩:=exL_mem h hr
  have e':(j:Int)=k:=e
  have:j=k:=by omega
  subst this
  exact Int.le_refl _
 refine⟨?_,fun k hk=>⟨lo k hk,hi k hk⟩⟩
 have hlen:(exL l).length≤256:=by rw[exL_len h]; omega
 unfold bdsE
 rw[decide_eq_true hlen,cond_true,h,cond_true]
 unfold bndE
 have n1:nB (l.length:Int)=true:=by unfold nB; rw[decide_eq_true (by omega),decide_eq_true (by omega)]; rfl
 have n2:rdsB (l.length:Int) (exL l)=true:=by
  unfold rdsB
  rw[Bool.not_eq_true',List.any_eq_false]
  intro r hr
  obtain⟨j,hj,rfl⟩:=exL_mem h hr
  have q:=ex_in h hj
  have:rgtR (l.length:Int) (exE l (j:Int))=true:=by
   unfold rgtR
   simp only[Bool.and_eq_true,decide_eq_true_eq]
   exact⟨⟨by show (0:Int)≤j; omega,by show (j:Int)≤_; omega⟩,q.1,q.2.1,q.2.2⟩
  rw[this]; exact Bool.noConfusion
 have n3:bndC l.length (exL l)=false:=by
  unfold bndC
  rw[List.any_eq_false]
  intro k hk
  have hk':=List.mem_range.1 hk
  have h1:=lo k hk'
  have h2:=hi k hk'
  have h3:=ex_in h hk'
  rw[decide_eq_true_eq]
  omega
 rw[decide_eq_true hlen,n1,n2,Int.toNat_natCast,n3]
 rfl
noncomputable def xsc (l:List SnI):List ScI:=scR l (exL l)
theorem xsc_pos {l:List SnI} (h:snsB l=true):0<(xsc l).length:=by
 obtain⟨e,hb⟩:=ex_bds h
 have hl:=(snsB_at h).1
 have hlen:=exL_len h
 have hm:=score_in (l:=l) (b:=bndM l.length (exL l)) (d:=(List.range l.length).map fun k:Nat=>(exE l (k:Int)).lo) (fun k hk=>by
  rw[bndM_get _ _ hk,List.getD_eq_getElem?_getD,List.getElem?_map,List.getElem?_range hk]
  obtain⟨h1,h2⟩:=hb k hk
  have:=ex_in h hk
  exact⟨h1,by show (exE l (k:Int)).lo≤bHi (exL l) k; omega⟩) hl
 unfold xsc scR
 rw[e,show ((0:Int)==0)=true from rfl,cond_true]
 exact List.length_pos_of_mem hm
theorem xsc_len (l:List SnI):(xsc l).length≤33:=by
 unfold xsc scR
 cases bdsE l (exL l)==0
 ·exact Nat.zero_le _
 ·exact scL_len _ _
def qS (l:List SnI) (i:Int):Int:=(l.getD i.toNat snD).x*(l.getD i.toNat snD).x+(l.getD i.toNat snD).y*(l.getD i.toNat snD).y
def qtm (l:List SnI) (i:Int):Int:=(l.getD i.toNat snD).1
def qH (l:List SnI) (k:Nat):Bool:=qzn (l.getD k snD).x (l.getD k snD).y==2
def qhL (l:List SnI):Nat→List Int
 |0=>[]
 |i+1=>bif qH l i then qhL l i++[(i:Int)] else qhL l i
def qnr (l:List SnI):List Int:=qst (qS l) (qhL l l.length)
def qlm (l:List SnI) (V:List Int):Option Nat:=(List.range V.length).find? fun p=>!(qtm l (V.getD p 0)==qtm l (V.getD 0 0))
def qpn (l:List SnI) (V:List Int) (m:Nat):Nat:=match (List.range m).find? fun p=>!decide (qS l (V.getD p 0)<qS l (V.getD m 0)) with
 |none=>m
 |some p=>p
def qcT (l:List SnI) (V:List Int):Int:=bif V.length==0 then -1 else match qlm l V with
 |none=>qtm l (V.getD 0 0)
 |some m=>bif qpn l V m==0 then -1 else qtm l (V.getD 0 0)
def qcP (l:List SnI) (V:List Int):Int:=bif V.length==0 then 0 else match qlm l V with
 |none=>(V.length:Int)
 |some m=>(qpn l V m:Int)
/-! Distances that give that score. -/
theorem qsq_ab (a:Int):ab a*ab a=a*a:=by
 unfold ab
 split
 ·exact Int.neg_mul_neg a a
 ·rfl
theorem qsq_is (x y:Int):sq2 x y=x*x+y*y:=by
 unfold sq2; rw[qsq_ab,qsq_ab]
theorem qup_lt {x y:Int} (hx:-6553600000≤x∧x≤6553600000) (hy:-6553600000≤y∧y≤6553600000):0≤lenV x y 2∧(lenV x y 2=0∨(lenV x y 2-1)*(lenV x y 2-1)<x*x+y*y)∧x*x+y*y≤lenV x y 2*lenV x y 2∧0≤lenV x y 1∧lenV x y 1*lenV x y 1≤x*x+y*y:=by
 obtain⟨d1,d2,d3,d4,d5,d6,d7⟩:=dn_up hx hy
 rw[d1,d2,←qsq_is]
 refine⟨by omega,?_,d5,d3,d4⟩
 have e2:rtN (sq2 x y) 2=rt (sq2 x y)+bif !(rt (sq2 x y)*rt (sq2 x y)==sq2 x y) then 1 else 0:=rfl
 cases hq:rt (sq2 x y)*rt (sq2 x y)==sq2 x y
 ·right
  rw[hq] at e2
  rw[e2]
  simp only[Bool.not_false,cond_true]
  rw[Int.add_sub_cancel]
  have:rt (sq2 x y)*rt (sq2 x y)≠sq2 x y:=by
   intro h; rw[h] at hq; simp at hq
  omega
 ·rw[hq] at e2
  simp only[Bool.not_true,cond_false,Int.add_zero] at e2
  rw[e2]
  rw[beq_iff_eq] at hq
  by_cases h0:rt (sq2 x y)=0
  ·exact .inl h0
  ·right
   generalize rt (sq2 x y)=r at *
   rw[←hq]
   have:(r-1)*(r-1)<r*r:=Int.lt_of_le_of_lt (Int.mul_le_mul_of_nonneg_left (show r-1≤r by omega) (by omega)) (Int.mul_lt_mul_of_pos_right (show r-1<r by omega) (by omega))
   exact this
theorem qsq_lt {a b:Int} (h:a*a<b*b) (hb:0≤b):a<b:=by
 refine Int.not_le.1 fun c=>?_
 have h1:b*b≤b*a:=Int.mul_le_mul_of_nonneg_left c hb
 have h2:b*a≤a*a:=Int.mul_le_mul_of_nonneg_right c (by omega)
 omega
theorem qsc_in {l:List SnI} (h:snsB l=true) {d:List Int} (hd:∀k,k<l.length→(exE l (k:Int)).lo≤d.getD k 0∧d.getD k 0≤(exE l (k:Int)).hi):dsS l d∈xsc l:=by
 obtain⟨e,hb⟩:=ex_bds h
 unfold xsc scR
 rw[e]
 refine score_in (b:=bndM l.length (exL l)) (fun k hk=>?_) (snsB_at h).1
 have eb:(bndM l.length (exL l)).getD k rdD=((k:Int),bLo (exL l) k,bHi (exL l) k,()):=by
  unfold bndM
  rw[List.getD_eq_getElem?_getD,List.getElem?_map,List.getElem?_range hk]; rfl
 rw[eb]
 have a:=hb k hk
 have b:=hd k hk
 show bLo (exL l) k≤_∧_≤bHi (exL l) k
 omega
section
variable (l:List SnI) (F:Int)
noncomputable def qdL:List Int:=(List.range l.length).map fun k:Nat=>if qS l (k:Int)<F then (exE l (k:Int)).lo else (exE l (k:Int)).hi
theorem qdL_get {k:Nat} (hk:k<l.length):(qdL l F).getD k 0=if qS l (k:Int)<F then (exE l (k:Int)).lo else (exE l (k:Int)).hi:=by
 unfold qdL
 rw[List.getD_eq_getElem?_getD,List.getElem?_map,List.getElem?_range hk]; rfl
variable {l F}
theorem qd_in (h:snsB l=true):dsS l (qdL l F)∈xsc l:=qsc_in h fun k hk=>by
 rw[qdL_get l F hk]
 have:=ex_in h hk
 split<;>omega
structure QM (F M:Int):Prop where
 pos:0≤M
 up:F≤M*M
 lo:M=0∨(M-1)*(M-1)<F
theorem qd_lt (h:snsB l=true) {M:Int} (hM:QM F M) {k:Nat} (hk:k<l.length):((qdL l F).getD k 0<M↔qS l (k:Int)<F)∧(qS l (k:Int)=F→(qdL l F).getD k 0=M):=by
 obtain⟨hx,hy⟩:=sn_in h hk
 obtain⟨u0,u1,u2,u3,u4⟩:=qup_lt hx hy
 have eS:(l.getD k snD).x*(l.getD k snD).x+(l.getD k snD).y*(l.getD k snD).y=qS l (k:Int):=rfl
 have e1:(exE l (k:Int)).lo=lenV (l.getD k snD).x (l.getD k snD).y 1:=rfl
 have e2:(exE l (k:Int)).hi=lenV (l.getD k snD).x (l.getD k snD).y 2:=rfl
 rw[qdL_get l F hk,e1,e2]
 rw[eS] at u1 u2 u4
 generalize lenV (l.getD k snD).x (l.getD k snD).y 1=f at *
 generalize lenV (l.getD k snD).x (l.getD k snD).y 2=c at *
 have p:=hM.pos
 have q:=hM.up
 by_cases hc:qS l (k:Int)<F
 ·rw[if_pos hc]
  exact⟨⟨fun _=>hc,fun _=>qsq_lt (by omega) p⟩,fun e=>by omega⟩
 ·rw[if_neg hc]
  refine⟨⟨fun hcM=>?_,fun e=>absurd e hc⟩,fun e=>?_⟩
  ·exfalso
   rcases hM.lo with h0|h1
   ·omega
   ·have:=qsq_lt (a:=M-1) (b:=c) (by omega) u0
    omega
  ·have a1:c≤M:=by
    rcases u1 with h0|h1
    ·omega
    ·have:=qsq_lt (a:=c-1) (b:=M) (by omega) p
     omega
   have a2:M≤c:=by
    rcases hM.lo with h0|h1
    ·omega
    ·have:=qsq_lt (a:=M-1) (b:=c) (by omega) u0
     omega
   omega
theorem qd_min (h:snsB l=true) {M:Int} (hM:QM F M) (hM':M≤129368065) (t:Int) (hO:∀k,k<l.length→(l.getD k snD).1=t→F≤qS l (k:Int)) (hF:M=129368065∨∃k,k<l.length∧(l.getD k snD).1=t∧qS l (k:Int)=F):dsM l (qdL l F) t l.length=M:=by
 obtain⟨h1,h2,h3⟩:=dsM_le l (qdL l F) t l.length
 have ge:M≤dsM l (qdL l F) t l.length:=by
  rcases h3 with e|⟨k,k1,k2,k3⟩
  ·omega
  ·have:=hO k k1 k2
   have:=(qd_lt h hM k1).1
   omega
 rcases hF with e|⟨k,k1,k2,k3⟩
 ·omega
 ·have:=h2 k k1 k2
  have:=(qd_lt h hM k1).2 k3
  omega
theorem qd_cnt (h:snsB l=true) {M:Int} (hM:QM F M) (t:Int):dsC l (qdL l F) t M l.length=(List.range l.length).countP fun k=>(l.getD k snD).1==t&&decide (qS l (k:Int)<F):=by
 unfold dsC
 refine List.countP_congr fun k hk=>?_
 have:=(qd_lt h hM (List.mem_range.1 hk)).1
 rw[Bool.and_eq_true,Bool.and_eq_true,decide_eq_true_eq,decide_eq_true_eq,this]
theorem qd_score (h:snsB l=true) {M:Int} (hM:QM F M) (hM':M≤129368065) {t o:Int} (ht:(t=0∧o=1)∨(t=1∧o=0)) (hO:∀k,k<l.length→(l.getD k snD).1=o→F≤qS l (k:Int)) (hF:M=129368065∨∃k,k<l.length∧(l.getD k snD).1=o∧qS l (k:Int)=F) {n:Nat} (hn:((List.range l.length).countP fun k=>(l.getD k snD).1==t&&decide (qS l (k:Int)<F))=n)
  (hT:n=0→M=129368065∨∃k,k<l.length∧(l.getD k snD).1=t∧qS l (k:Int)=F):((bif n==0 then (-1,0,()) else (t,(n:Int),())):ScI)∈xsc l:=by
 have e:dsS l (qdL l F)=bif n==0 then (-1,0,()) else (t,(n:Int),()):=by
  have mo:=qd_min h hM hM' o hO hF
  have cn:=(qd_cnt h hM t).trans hn
  by_cases h0:n=0
  ·have mt:=qd_min h hM hM' t (fun k hk et=>by
    refine Int.not_lt.1 fun hc=>?_
    have:0<n:=by
     rw[←hn]
     refine List.countP_pos_iff.2 ⟨k,List.mem_range.2 hk,?_⟩
     rw[et,decide_eq_true hc,beq_self_eq_true]; rfl
    omega) (hT h0)
   subst h0
   unfold dsS
   rcases ht with ⟨rfl,rfl⟩|⟨rfl,rfl⟩
   ·rw[mo,mt,beq_self_eq_true]; rfl
   ·rw[mo,mt,beq_self_eq_true]; rfl
  ·have lt:dsM l (qdL l F) t l.length<M:=by
    obtain⟨k,hk,hp⟩:=List.countP_pos_iff.1 (show 0<(List.range l.length).countP (fun k=>(l.getD k snD).1==t&&decide (qS l (k:Int)<F)) by omega)
    rw[Bool.and_eq_true,beq_iff_eq,decide_eq_true_eq] at hp
    have:=(dsM_le l (qdL l F) t l.length).2.1 k (List.mem_range.1 hk) hp.1
    have:=(qd_lt h hM (List.mem_range.1 hk)).1.2 hp.2
    omega
   have hn0:(n==0)=false:=beq_eq_false_iff_ne.2 h0
   unfold dsS
   rcases ht with ⟨rfl,rfl⟩|⟨rfl,rfl⟩
   ·rw[mo,cn,beq_eq_false_iff_ne.2 (show dsM l (qdL l F) 0 l.length≠M by omega),decide_eq_false (show ¬M<dsM l (qdL l F) 0 l.length by omega),hn0]; rfl
   ·rw[mo,cn,beq_eq_false_iff_ne.2 (show M≠dsM l (qdL l F) 1 l.length by omega),decide_eq_true lt,hn0]; rfl
 rw[←e]
 exact qd_in h
end
/-! The indices. -/
theorem qhL_mem (l:List SnI) (x:Int):∀n,x∈qhL l n↔∃k:Nat,k<n∧qH l k=true∧x=(k:Int)
 |0=>⟨fun h=>(by cases h),fun ⟨k,h,_⟩=>absurd h (Nat.not_lt_zero k)⟩
 |n+1=>by
  rw[qhL]
  cases hq:qH l n
  ·rw[cond_false,qhL_mem l x n]
   constructor
   ·rintro⟨k,a,b,c⟩
    exact⟨k,by omega,b,c⟩
   ·rintro⟨k,a,b,c⟩
    rcases Nat.lt_succ_iff_lt_or_eq.1 a with h|rfl
    ·exact⟨k,h,b,c⟩
    ·rw[hq] at b; cases b
  ·rw[cond_true,List.mem_append,qhL_mem l x n,List.mem_singleton]
   constructor
   ·rintro (⟨k,a,b,c⟩|e)
    ·exact⟨k,by omega,b,c⟩
    ·exact⟨n,by omega,hq,e⟩
   ·rintro⟨k,a,b,c⟩
    rcases Nat.lt_succ_iff_lt_or_eq.1 a with h|rfl
    ·exact .inl ⟨k,h,b,c⟩
    ·exact .inr c
theorem qhL_count (l:List SnI) (p:Int→Bool):∀n,(qhL l n).countP p=(List.range n).countP fun k:Nat=>qH l k&&p (k:Int)
 |0=>rfl
 |n+1=>by
  rw[qhL,List.range_succ,List.countP_append,List.countP_singleton,←qhL_count l p n]
  cases qH l n
  ·rfl
  ·rw[cond_true,List.countP_append,List.countP_singleton]; rfl
theorem qhL_len (l:List SnI):∀n,(qhL l n).length≤n
 |0=>Nat.le_refl _
 |n+1=>by
  have:=qhL_len l n
  rw[qhL]
  cases qH l n
  ·show (qhL l n).length≤n+1; omega
  ·show (qhL l n++[(n:Int)]).length≤n+1
   rw[List.length_append,List.length_singleton]; omega
theorem cnt_pre {S:Int→Int} {F:Int}:∀(V:List Int) (P:Nat),P≤V.length→(∀p,p<P→S (V.getD p 0)<F)→(∀p,P≤p→p<V.length→F≤S (V.getD p 0))→V.countP (fun i=>decide (S i<F))=P
 | [],P,h,_,_=>by rw[show P=0 from Nat.le_zero.1 h]; rfl
 |x::V,0,h,_,h2=>by
  refine List.countP_eq_zero.2 fun a ha=>?_
  obtain⟨q,hq,e⟩:=List.mem_iff_getElem.1 ha
  have:=h2 q (Nat.zero_le _) hq
  rw[List.getD_eq_getElem?_getD,List.getElem?_eq_getElem hq,Option.getD_some,e] at this
  rw[decide_eq_true_eq]; omega
 |x::V,P+1,h,h1,h2=>by
  have hx:S x<F:=h1 0 (by omega)
  rw[List.countP_cons_of_pos (by rw[decide_eq_true_eq]; exact hx),cnt_pre V P (by rw[List.length_cons] at h; omega) (fun p hp=>h1 (p+1) (by omega)) (fun p hp hq=>h2 (p+1) (by omega) (by rw[List.length_cons]; omega))]
theorem qct_in {l:List SnI} (h:snsB l=true) (hz:∀k,k<l.length→qzn (l.getD k snD).x (l.getD k snD).y≠0):((qcT l (qnr l),qcP l (qnr l),()):ScI)∈xsc l:=by
 have hH:∀k,k<l.length→(qH l k=true↔qS l (k:Int)<16736095983108097):=fun k hk=>by
  have:=hz k hk
  have eS:(l.getD k snD).x*(l.getD k snD).x+(l.getD k snD).y*(l.getD k snD).y=qS l (k:Int):=rfl
  unfold qH
  rw[beq_iff_eq]
  unfold qzn at this ⊢
  rw[eS] at this ⊢
  split
  ·rename_i c; rw[if_pos c] at this; exact absurd rfl this
  ·rename_i c; rw[if_neg c] at this
   split
   ·rename_i c; rw[if_pos c] at this; exact absurd rfl this
   ·rename_i c; rw[if_neg c] at this
    split
    ·rename_i c; rw[if_pos c] at this; exact absurd rfl this
    ·split
     ·exact⟨fun _=>by omega,fun _=>rfl⟩
     ·split<;>exact⟨fun e=>absurd e (by decide),fun e=>by omega⟩
 have tm:∀k,k<l.length→(l.getD k snD).1=0∨(l.getD k snD).1=1:=fun k hk=>by
  have:=(snsB_at h).2 k hk
  unfold snV at this
  simp only[Bool.and_eq_true,decide_eq_true_eq] at this
  omega
 have M1:QM 16736095983108097 129368065:=⟨by omega,by omega,.inr (by omega)⟩
 have pm:(qnr l).Perm (qhL l l.length):=qst_perm _ _
 have rs:qRs (qS l) (qnr l) (qnr l).length:=by
  rw[pm.length_eq]; exact qst_rs _ _
 have hV:∀p,p<(qnr l).length→∃k:Nat,k<l.length∧qH l k=true∧(qnr l).getD p 0=(k:Int):=fun p hp=>by
  have hm:(qnr l).getD p 0∈qhL l l.length:=by
   refine pm.mem_iff.1 ?_
   rw[List.getD_eq_getElem?_getD,List.getElem?_eq_getElem hp]; exact List.getElem_mem _
  exact (qhL_mem l _ _).1 hm
 have hI:∀k,k<l.length→qH l k=true→∃p,p<(qnr l).length∧(qnr l).getD p 0=(k:Int):=fun k hk hh=>by
  have hm:(k:Int)∈qnr l:=pm.mem_iff.2 ((qhL_mem l _ _).2 ⟨k,hk,hh,rfl⟩)
  obtain⟨p,hp,e⟩:=List.mem_iff_getElem.1 hm
  exact⟨p,hp,by rw[List.getD_eq_getElem?_getD,List.getElem?_eq_getElem hp]; exact e⟩
 have cntV:∀F,(qnr l).countP (fun i=>decide (qS l i<F))=(List.range l.length).countP fun k:Nat=>qH l k&&decide (qS l (k:Int)<F):=fun F=>by
  rw[pm.countP_eq,qhL_count]
 have eT:∀k:Nat,qtm l (k:Int)=(l.getD k snD).1:=fun k=>rfl
 generalize hVe:qnr l=V at *
 unfold qcT qcP
 by_cases h0:V.length=0
 ·rw[h0]
  have:=qd_score (F:=16736095983108097) h M1 (Int.le_refl _) (t:=0) (o:=1) (.inl ⟨rfl,rfl⟩) (fun k hk _=>Int.not_lt.1 fun c=>by
   obtain⟨p,hp,_⟩:=hI k hk ((hH k hk).2 c)
   omega) (.inl rfl) (n:=0) (List.countP_eq_zero.2 fun k hk hp=>by
   rw[Bool.and_eq_true,decide_eq_true_eq] at hp
   obtain⟨p,hp,_⟩:=hI k (List.mem_range.1 hk) ((hH k (List.mem_range.1 hk)).2 hp.2)
   omega) (fun _=>.inl rfl)
  exact this
 ·obtain⟨k0,hk0,hh0,e0⟩:=hV 0 (by omega)
  have hT:=tm k0 hk0
  rw[beq_eq_false_iff_ne.2 h0,cond_false,cond_false,e0,eT]
  generalize hTT:(l.getD k0 snD).1=T at *
  have hto:(T=0∧1-T=1)∨(T=1∧1-T=0):=by omega
  cases hl:qlm l V with
  |none=>
   have all:∀p,p<V.length→qtm l (V.getD p 0)=T:=fun p hp=>by
    have:=List.find?_eq_none.1 hl p (List.mem_range.2 hp)
    rw[e0,eT,hTT] at this
    simpa using this
   have hO:∀k,k<l.length→(l.getD k snD).1=1-T→(16736095983108097:Int)≤qS l (k:Int):=fun k hk e=>Int.not_lt.1 fun c=>by
    obtain⟨p,hp,ep⟩:=hI k hk ((hH k hk).2 c)
    have:=all p hp
    rw[ep,eT] at this
    omega
   have hn:((List.range l.length).countP fun k=>(l.getD k snD).1==T&&decide (qS l (k:Int)<16736095983108097))=V.length:=by
    have c1:=cntV 16736095983108097
    rw[cnt_pre V V.length (Nat.le_refl _) (fun p hp=>by
     obtain⟨k,hk,hh,e⟩:=hV p hp
     rw[e]; exact (hH k hk).1 hh) (fun p a b=>by omega)] at c1
    rw[c1]
    refine List.countP_congr fun k hk=>?_
    have hk:=List.mem_range.1 hk
    rw[Bool.and_eq_true,Bool.and_eq_true,decide_eq_true_eq,beq_iff_eq,hH k hk]
    constructor
    ·exact fun a=>⟨a.2,a.2⟩
    ·refine fun a=>⟨?_,a.2⟩
     rcases tm k hk with e|e
     ·have:=hO k hk; omega
     ·have:=hO k hk; omega
   have:=qd_score (F:=16736095983108097) h M1 (Int.le_refl _) (t:=T) (o:=1-T) hto hO (.inl rfl) hn (fun e=>by omega)
   rw[beq_eq_false_iff_ne.2 h0] at this
   exact this
  |some m=>
   have hm:=List.mem_range.1 (List.mem_of_find?_eq_some hl)
   have hmT:qtm l (V.getD m 0)≠T:=by
    have:=List.find?_some hl
    rw[e0,eT,hTT] at this
    simpa using this
   have bef:∀p,p<m→qtm l (V.getD p 0)=T:=fun p hp=>by
    have:=(List.find?_range_eq_some.1 hl).2.2 p hp
    rw[e0,eT,hTT] at this
    simpa using this
   obtain⟨km,hkm,hhm,em⟩:=hV m hm
   rw[em,eT] at hmT
   have hkmO:(l.getD km snD).1=1-T:=by have:=tm km hkm; omega
   obtain⟨hx,hy⟩:=sn_in h hkm
   obtain⟨u0,u1,u2,_,_⟩:=qup_lt hx hy
   have eF:(l.getD km snD).x*(l.getD km snD).x+(l.getD km snD).y*(l.getD km snD).y=qS l (km:Int):=rfl
   rw[eF] at u1 u2
   have hF1:=(hH km hkm).1 hhm
   have hMle:lenV (l.getD km snD).x (l.getD km snD).y 2≤129368064:=by
    rcases u1 with e|e
    ·omega
    ·have:=qsq_lt (a:=lenV (l.getD km snD).x (l.getD km snD).y 2-1) (b:=129368064) (by omega) (by omega)
     omega
   have hM:QM (qS l (km:Int)) (lenV (l.getD km snD).x (l.getD km snD).y 2):=⟨u0,u2,u1⟩
   generalize lenV (l.getD km snD).x (l.getD km snD).y 2=M at *
   have rise:∀p,m≤p→p<V.length→qS l (km:Int)≤qS l (V.getD p 0):=fun p a b=>by
    rcases Nat.lt_or_ge m p with c|c
    ·rw[←em]; exact rs m p c b
    ·rw[show p=m by omega,em]; exact Int.le_refl _
   have hO:∀k,k<l.length→(l.getD k snD).1=1-T→qS l (km:Int)≤qS l (k:Int):=fun k hk e=>by
    by_cases c:qH l k=true
    ·obtain⟨p,hp,ep⟩:=hI k hk c
     rcases Nat.lt_or_ge p m with a|a
     ·have:=bef p a
      rw[ep,eT] at this
      omega
     ·rw[←ep]; exact rise p a hp
    ·have:¬qS l (k:Int)<16736095983108097:=fun q=>c ((hH k hk).2 q)
     omega
   have hP:qpn l V m≤m∧(∀p,p<qpn l V m→qS l (V.getD p 0)<qS l (km:Int))∧(qpn l V m<m→qS l (km:Int)≤qS l (V.getD (qpn l V m) 0)):=by
    unfold qpn
    rw[em]
    cases hf:(List.range m).find? fun p=>!decide (qS l (V.getD p 0)<qS l (km:Int)) with
    |none=>
     refine⟨Nat.le_refl _,fun p hp=>?_,fun a=>absurd a (Nat.lt_irrefl _)⟩
     have:=List.find?_eq_none.1 hf p (List.mem_range.2 hp)
     simpa using this
    |some q=>
     refine⟨Nat.le_of_lt (List.mem_range.1 (List.mem_of_find?_eq_some hf)),fun p hp=>?_,fun _=>?_⟩
     ·have:=(List.find?_range_eq_some.1 hf).2.2 p hp
      simpa using this
     ·have:=List.find?_some hf
      simpa using this
   show ((bif qpn l V m==0 then -1 else T,((qpn l V m:Nat):Int),()):ScI)∈xsc l
   generalize qpn l V m=P at *
   have hn:((List.range l.length).countP fun k=>(l.getD k snD).1==T&&decide (qS l (k:Int)<qS l (km:Int)))=P:=by
    have c1:=cntV (qS l (km:Int))
    rw[cnt_pre V P (by omega) hP.2.1 (fun p a b=>by
     rcases Nat.lt_or_ge P m with c|c
     ·have:=hP.2.2 c
      rcases Nat.lt_or_ge P p with d|d
      ·have:=rs P p d b; omega
      ·rw[show p=P by omega]; exact this
     ·exact rise p (by omega) b)] at c1
    rw[c1]
    refine List.countP_congr fun k hk=>?_
    have hk:=List.mem_range.1 hk
    rw[Bool.and_eq_true,Bool.and_eq_true,decide_eq_true_eq,beq_iff_eq,hH k hk]
    constructor
    ·exact fun a=>⟨by omega,a.2⟩
    ·refine fun a=>⟨?_,a.2⟩
     rcases tm k hk with e|e
     ·have:=hO k hk; omega
     ·have:=hO k hk; omega
   have:=qd_score (F:=qS l (km:Int)) h hM (by omega) (t:=T) (o:=1-T) hto hO (.inr ⟨km,hkm,hkmO,rfl⟩) hn (fun e=>.inr ⟨k0,hk0,hTT,by
    have a:=hO km hkm hkmO
    have b:qS l (k0:Int)≤qS l (km:Int):=by
     rw[←e0,←em]
     rcases Nat.eq_zero_or_pos m with c|c
     ·rw[c]; exact Int.le_refl _
     ·exact rs 0 m c hm
    have c:qS l (km:Int)≤qS l (k0:Int):=by
     rw[←e0]
     subst e
     rcases Nat.lt_or_ge 0 m with d|d
     ·exact hP.2.2 d
     ·have:m=0:=by omega
      exact rise 0 (by omega) (by omega)
    omega⟩)
   by_cases hp0:P=0
   ·subst hp0; exact this
   ·rw[beq_eq_false_iff_ne.2 hp0] at this ⊢; exact this
/-! No team counts more than 8. -/
theorem cnt_one (p:Nat→Bool):∀n,(∀i j,i<j→j<n→p i=true→p j=true→False)→(List.range n).countP p≤1
 |0,_=>Nat.zero_le 1
 |n+1,h=>by
  rw[List.range_succ,List.countP_append,List.countP_singleton]
  cases hp:p n
  ·have:=cnt_one p n fun i j a b=>h i j a (by omega)
   simp only[Bool.false_eq_true,if_false]; omega
  ·have:(List.range n).countP p=0:=List.countP_eq_zero.2 fun k hk hpk=>h k n (List.mem_range.1 hk) (by omega) hpk hp
   rw[this]; decide
theorem cnt_split (p:Nat→Bool) (f:Nat→Int):∀L:List Nat,(∀k∈L,0≤f k∧f k≤7)→L.countP p≤L.countP (fun k=>p k&&f k==0)+L.countP (fun k=>p k&&f k==1)+L.countP (fun k=>p k&&f k==2)+L.countP (fun k=>p k&&f k==3)+L.countP (fun k=>p k&&f k==4)+L.countP (fun k=>p k&&f k==5)+L.countP (fun k=>p k&&f k==6)+L.countP (fun k=>p k&&f k==7)
 | [],_=>Nat.zero_le _
 |k::L,h=>by
  have ih:=cnt_split p f L fun k hk=>h k (List.mem_cons_of_mem _ hk)
  have hk:=h k List.mem_cons_self
  simp only[List.countP_cons]
  cases hp:p k
  ·simpa using ih
  ·rcases (show f k=0∨f k=1∨f k=2∨f k=3∨f k=4∨f k=5∨f k=6∨f k=7 by omega) with e|e|e|e|e|e|e|e<;>simp[e]<;>omega
theorem tm_len8 {l:List SnI} (h:snsB l=true) (b:List RdI) (t:Int):(tmL l b t).length≤8:=by
 have e:(tmL l b t).length=(List.range l.length).countP fun k=>(l.getD k snD).1==t:=by
  unfold tmL tmN
  rw[List.length_map,List.countP_eq_length_filter]
 have hn:∀v:Int,(List.range l.length).countP (fun k=>(l.getD k snD).1==t&&(l.getD k snD).2.1==v)≤1:=fun v=>cnt_one _ _ fun i j hij hj hi' hj'=>by
  have h':=h
  unfold snsB at h'
  rw[Bool.and_eq_true,Bool.not_eq_true',List.any_eq_false] at h'
  have:=h'.2 j (List.mem_range.2 hj)
  unfold snBad at this
  rw[Bool.or_eq_true,not_or] at this
  refine this.2 (List.any_eq_true.2 ⟨i,List.mem_range.2 hij,?_⟩)
  rw[Bool.and_eq_true,beq_iff_eq,beq_iff_eq] at hi' hj'
  unfold snN
  rw[hi'.1,hi'.2,hj'.1,hj'.2,beq_self_eq_true,beq_self_eq_true]; rfl
 have:=cnt_split (fun k=>(l.getD k snD).1==t) (fun k=>(l.getD k snD).2.1) (List.range l.length) fun k hk=>by
  have:=(snsB_at h).2 k (List.mem_range.1 hk)
  unfold snV at this
  simp only[Bool.and_eq_true,decide_eq_true_eq] at this
  omega
 have h0:=hn 0
 have h1:=hn 1
 have h2:=hn 2
 have h3:=hn 3
 have h4:=hn 4
 have h5:=hn 5
 have h6:=hn 6
 have h7:=hn 7
 omega
theorem xsc_8 {l:List SnI} (h:snsB l=true) {q:ScI} (hq:q∈xsc l):0≤q.2.1∧q.2.1≤8:=by
 have hl:=(snsB_at h).1
 have sub:∀(s o:List RdI) (t:Int),s.length≤8→q∈scT s o t→0≤q.2.1∧q.2.1≤8:=fun s o t hs hm=>by
  obtain⟨d,_,n,_,hn,rfl⟩:=(scT_mem s o t (by omega) q).2 hm
  have:canN s d≤s.length:=List.countP_le_length
  show 0≤(n:Int)∧(n:Int)≤8
  omega
 unfold xsc scR at hq
 revert hq
 cases bdsE l (exL l)==0
 ·intro hq; cases hq
 ·intro hq
  rcases List.mem_append.1 hq with a|a
  ·revert a
   cases tieB (tmL l (bndM l.length (exL l)) 0) (tmL l (bndM l.length (exL l)) 1)
   ·intro a; cases a
   ·intro a; rw[List.mem_singleton.1 a]; decide
  ·rcases List.mem_append.1 a with a|a
   ·exact sub _ _ _ (tm_len8 h _ _) a
   ·exact sub _ _ _ (tm_len8 h _ _) a
noncomputable def fsKr:FuncId→Option Fsp:=fun g=>
 if g=13 then some mckS else
 if g=40 then some exS else
 if g=41 then some mscS else
 fsK5 g
theorem fsKr_ok:FsOk fsKr:=
 fs_cons mckS_ok <|
 fs_cons mexS_ok <|
 fs_cons mscS_new.ok <|
 fsK5_ok
def pfV (t:Int) (p:ScI):Int:=bif p.1 != t then IntKind.i64.wrap (0-p.2.1) else p.2.1
noncomputable def afG (r:RvI) (e l t:Int) (p:ScI):HpI:=hv r (nxG e l t (pfV t p))
noncomputable def afH (r:RvI) (e l t:Int) (L:List SnI):List HpI:=(xsc L).map (afG r e l t)
def fsN (q:HpI→HpI→Bool) (H:List HpI):Nat→Nat
 |0=>0
 |i+1=>bif q (H.getD i (0,0,())) (H.getD (fsN q H i) (0,0,())) then i else fsN q H i
theorem fsN_lt (q:HpI→HpI→Bool) (H:List HpI):∀i,0<H.length→i≤H.length→fsN q H i<H.length
 |0,h,_=>h
 |i+1,h,hi=>by
  rw[fsN]
  have:=fsN_lt q H i h (by omega)
  cases q (H.getD i (0,0,())) (H.getD (fsN q H i) (0,0,()))
  ·exact this
  ·show i<_; omega
theorem fs_run {α:Type} (q:HpI→HpI→Bool) (H:List HpI) (hp:0<H.length) (hl:H.length≤maxLen) (K:Nat→Int × Int × Unit→Option α) {N:Nat} (hN:H.length<N):afterL (iterL N (beF q H) (0,0,())) K=K 0 ((fsN q H H.length:Int),(H.length:Int),()):=by
 refine count_loop (f:=beF q H) (fun i:Nat=>((fsN q H i:Int),(i:Int),())) H.length (fun i hi=>?_) (y:=((fsN q H H.length:Int),(H.length:Int),())) (b:=0) ?_ hN
 ·have:=fsN_lt q H i hp (by omega)
  unfold beF
  simp only[lt_len hi,cond_true,in_len hi,in_len this,if_pos,and_self,decide_true,Int.toNat_natCast,wrap_next hi hl,fsN]
  cases q (H.getD i (0,0,())) (H.getD (fsN q H i) (0,0,()))<;>rfl
 ·unfold beF
  simp only[not_lt_len,cond_false]
abbrev AfS:=List HpI × Int × MpI × Unit
noncomputable def afS {α:Type} (r:RvI) (e l t q:Int) (x:AfS):Option (LRes AfS α):=
 bif hmB t then bif hpD 13 r (nxG e l t q) x.2.2.1 then
  if (x.1.length+[(((hv r (nxG e l t q)).1,(hv r (nxG e l t q)).2.1,()):HpI)].length)*16≤room then some (.cont (x.1++[((hv r (nxG e l t q)).1,(hv r (nxG e l t q)).2.1,())],IntKind.i64.wrap (x.2.1+1),wv r (nxG e l t q) x.2.2.1,())) else none
 else none else none
noncomputable def afF {α:Type} (r:RvI) (e l t:Int) (S:List ScI) (x:AfS):Option (LRes AfS α):=
 bif decide (x.2.1<(S.length:Int)) then
  if 0≤x.2.1∧x.2.1<(S.length:Int) then
   bif (S.getD x.2.1.toNat (0,0,())).1 != t then afS r e l t (IntKind.i64.wrap (0-(S.getD x.2.1.toNat (0,0,())).2.1)) x else afS r e l t (S.getD x.2.1.toNat (0,0,())).2.1 x
  else none
 else some (.brk 0 (x.1,x.2.1,x.2.2.1,()))
abbrev qLo (a b:HpI):Bool:=decide (a.1<b.1)
abbrev qHi (a b:HpI):Bool:=decide (a.2.1>b.2.1)
noncomputable def afT {α:Type} (N:Nat) (r:RvI) (e l t:Int) (S:List ScI) (k:AOut→Option α):Option α:=
 afterL (iterL N (afF r e l t S) ([],0,[],())) fun id y=>if id=0 then
  afterL (iterL N (beF qLo y.1) (0,0,())) fun id a=>if id=0 then
   if 0≤a.1∧a.1<(y.1.length:Int) then
    afterL (iterL N (beF qHi y.1) (0,0,())) fun id b=>if id=0 then
     if 0≤b.1∧b.1<(y.1.length:Int) then k (.ret (.tup [hpA (y.1.getD a.1.toNat (0,0,())).1 (y.1.getD b.1.toNat (0,0,())).2.1,.int .i64 0])) else none
    else none
   else none
  else none
 else none
set_option maxRecDepth 100000 in
theorem kaf_text (N n0:Nat) (α:Type) (d:Int) (A B:List (List Int)) (e l t:Int) (L:List SnI) (k:AOut→Option α):evFn real tab ((twY fsKr spK).env real tab N (n0+30)) N Tryz.f6 α [.agg [.int .i64 d,.ro LsSh A,.ro LsSh B],.agg [.int .i64 e,.int .i64 l,.int .i64 t],.ro SnSh L] k =
 bif (bif rvB (d,A,B) then (0:Int) else 2)==0 then bif !(bif stB (e,l,t,()) then (0:Int) else 2)==0 then k (.ret (.tup [hpA 0 0,.int .i64 2])) else bif snsE L != 0 then
 k (.ret (.tup [hpA 0 0,.int .i64 2])) else bif e==0 then k (.ret (.tup [hpA 0 0,.int .i64 9])) else afT N (d,A,B) e l t (xsc L) k else k (.ret (.tup [hpA 0 0,.int .i64 2]))
 := by kernel_rfl
noncomputable def afW (r:RvI) (e l t:Int) (S:List ScI):Nat→MpI
 |0=>[]
 |i+1=>wv r (nxG e l t (pfV t (S.getD i (0,0,())))) (afW r e l t S i)
theorem afW_gd {r:RvI} (e l t:Int) (S:List ScI):∀i,gdB r (afW r e l t S i)=true
 |0=>rfl
 |i+1=>gd_wv _ _ (afW_gd e l t S i)
theorem af_run {α:Type} {d:Int} {A B:List (List Int)} {e l t:Int} (hr:rvB (d,A,B)=true) (hs:stB (e,l,t,())=true) (h0:0<e) (S:List ScI) (hp:0<S.length) (hl:S.length≤33) (k:AOut→Option α) :
  afT 40 (d,A,B) e l t S k=k (.ret (.tup [hpA ((S.map (afG (d,A,B) e l t)).getD (fsN qLo (S.map (afG (d,A,B) e l t)) S.length) (0,0,())).1 ((S.map (afG (d,A,B) e l t)).getD (fsN qHi (S.map (afG (d,A,B) e l t)) S.length) (0,0,())).2.1,.int .i64 0])):=by
 have hmx:S.length≤maxLen:=by have:maxLen=9223372036854775807:=rfl; omega
 have hroom:room≥10000:=by decide
 have tk:∀i,i<S.length→(S.map (afG (d,A,B) e l t)).take (i+1)=(S.map (afG (d,A,B) e l t)).take i++[afG (d,A,B) e l t (S.getD i (0,0,()))]:=fun i hi=>by
  rw[List.take_add_one,List.getElem?_map,List.getD_eq_getElem?_getD,List.getElem?_eq_getElem hi]; rfl
 unfold afT
 refine (count_loop (f:=afF (d,A,B) e l t S) (fun i:Nat=>((S.map (afG (d,A,B) e l t)).take i,(i:Int),afW (d,A,B) e l t S i,())) S.length (fun i hi=>?_) (y:=((S.map (afG (d,A,B) e l t)).take S.length,(S.length:Int),afW (d,A,B) e l t S S.length,())) (b:=0) ?_ (by omega)).trans ?_
 ·have step:∀q,q=pfV t (S.getD i (0,0,()))→afS (α:=α) (d,A,B) e l t q ((S.map (afG (d,A,B) e l t)).take i,(i:Int),afW (d,A,B) e l t S i,())=some (.cont ((S.map (afG (d,A,B) e l t)).take (i+1),((i+1:Nat):Int),afW (d,A,B) e l t S (i+1),())):=fun q hq=>by
   subst hq
   unfold afS
   rw[stB_hm hs,cond_true,hpD_nil hr (nx_st hs h0) (afW_gd e l t S i),cond_true]
   rw[if_pos (by simp only[List.length_take,List.length_map,List.length_singleton]; omega),wrap_next hi hmx,tk i hi]
   rfl
  unfold afF
  simp only[lt_len hi,cond_true,in_len hi,if_pos,and_self,decide_true,Int.toNat_natCast]
  cases hc:(S.getD i (0,0,())).1 != t
  ·exact step _ (by unfold pfV; rw[hc]; rfl)
  ·exact step _ (by unfold pfV; rw[hc]; rfl)
 ·unfold afF
  simp only[not_lt_len,cond_false]
 ·have e1:(S.map (afG (d,A,B) e l t)).take S.length=S.map (afG (d,A,B) e l t):=List.take_of_length_le (by rw[List.length_map]; omega)
  rw[if_pos rfl,e1]
  have hlen:(S.map (afG (d,A,B) e l t)).length=S.length:=List.length_map _
  generalize S.map (afG (d,A,B) e l t)=H at *
  refine (fs_run qLo H (by omega) (by omega) _ (by omega)).trans ?_
  have a1:=fsN_lt qLo H H.length (by omega) (by omega)
  have a2:=fsN_lt qHi H H.length (by omega) (by omega)
  rw[if_pos rfl]
  refine Eq.trans (if_pos (show (0:Int)≤(fsN qLo H H.length:Int)∧(fsN qLo H H.length:Int)<(H.length:Int) from ⟨by omega,by omega⟩)) ?_
  refine (fs_run qHi H (by omega) (by omega) _ (by omega)).trans ?_
  rw[if_pos rfl]
  refine Eq.trans (if_pos (show (0:Int)≤(fsN qHi H H.length:Int)∧(fsN qHi H H.length:Int)<(H.length:Int) from ⟨by omega,by omega⟩)) ?_
  rw[←hlen]
  rfl
def afB (d:Int) (A B:List (List Int)) (e l t:Int) (L:List SnI):Bool:=rsB d A B e l t&&(snsB L&&!(e==0))
def afE (d:Int) (A B:List (List Int)) (e l t:Int) (L:List SnI):Int:=bif rsB d A B e l t&&snsB L then bif e==0 then 9 else 0 else 2
noncomputable def afL (r:RvI) (e l t:Int) (L:List SnI):Int:=((afH r e l t L).getD (fsN qLo (afH r e l t L) (xsc L).length) (0,0,())).1
noncomputable def afU (r:RvI) (e l t:Int) (L:List SnI):Int:=((afH r e l t L).getD (fsN qHi (afH r e l t L) (xsc L).length) (0,0,())).2.1
noncomputable def aqL (d:Int) (A B:List (List Int)) (e l t:Int) (L:List SnI):Int:=bif afB d A B e l t L then afL (d,A,B) e l t L else 0
noncomputable def aqU (d:Int) (A B:List (List Int)) (e l t:Int) (L:List SnI):Int:=bif afB d A B e l t L then afU (d,A,B) e l t L else 0
noncomputable def kafS:Fsp:=fun _ args k=>match args with
 | [.agg [.int .i64 d,.ro (.sl (.int .i64)) A,.ro (.sl (.int .i64)) B],.agg [.int .i64 e,.int .i64 l,.int .i64 t],.ro (.recd (.cons (.int .i64) (.cons (.int .i64) (.cons (.recd (.cons (.int .i64) (.cons (.int .i64) .nil))) .nil)))) L]=>k (.ret (.tup [hpA (aqL d A B e l t L) (aqU d A B e l t L),.int .i64 (afE d A B e l t L)]))
 |_=>none
theorem kafS_ok:FspOk Tryz.prog 6 kafS:=tower_Y fsKr_ok spK_ok ⟨Tryz.func6,fun _ _=>by kernel_rfl⟩ (by intro α args k; unfold kafS; split<;>rfl) fun args out hSm hEq=>by
 unfold kafS at hEq
 split at hEq
 ·rename_i d A B e l t L
  refine⟨40,30,((kaf_text 40 0 AOut d A B e l t L some).trans ((rs_parts d A B e l t _ _).trans ?_)).trans hEq⟩
  unfold aqL aqU afE afB
  cases hr:rsB d A B e l t
  ·rfl
  unfold snsE
  cases hs:snsB L
  ·rfl
  cases he:e==0
  case true=>rfl
  unfold rsB at hr
  rw[Bool.and_eq_true] at hr
  have h0:0<e:=by
   have:=(stB_in hr.2).1.1
   have:e≠0:=beq_eq_false_iff_ne.1 he
   simp only at *
   omega
  exact af_run hr.1 hr.2 h0 (xsc L) (xsc_pos hs) (xsc_len L) some
 ·cases hEq
theorem fs_lo (H:List HpI):∀i j,j<i→(H.getD (fsN qLo H i) (0,0,())).1≤(H.getD j (0,0,())).1
 |0,j,h=>absurd h (Nat.not_lt_zero j)
 |i+1,j,h=>by
  rw[fsN]
  cases hq:qLo (H.getD i (0,0,())) (H.getD (fsN qLo H i) (0,0,()))
  ·have hq:=of_decide_eq_false hq
   rw[cond_false]
   rcases Nat.lt_succ_iff_lt_or_eq.1 h with a|rfl
   ·exact fs_lo H i j a
   ·omega
  ·have hq:=of_decide_eq_true hq
   rw[cond_true]
   rcases Nat.lt_succ_iff_lt_or_eq.1 h with a|rfl
   ·have:=fs_lo H i j a; omega
   ·exact Int.le_refl _
theorem fs_hi (H:List HpI):∀i j,j<i→(H.getD j (0,0,())).2.1≤(H.getD (fsN qHi H i) (0,0,())).2.1
 |0,j,h=>absurd h (Nat.not_lt_zero j)
 |i+1,j,h=>by
  rw[fsN]
  cases hq:qHi (H.getD i (0,0,())) (H.getD (fsN qHi H i) (0,0,()))
  ·have hq:=of_decide_eq_false hq
   rw[cond_false]
   rcases Nat.lt_succ_iff_lt_or_eq.1 h with a|rfl
   ·exact fs_hi H i j a
   ·omega
  ·have hq:=of_decide_eq_true hq
   rw[cond_true]
   rcases Nat.lt_succ_iff_lt_or_eq.1 h with a|rfl
   ·have:=fs_hi H i j a; omega
   ·exact Int.le_refl _
theorem fin_core {d:Int} {A B:List (List Int)} {e l t:Int} {L:List SnI} (hB:afB d A B e l t L=true) {p:ScI} (hp:p∈xsc L) {q:Int} (hq:q=pfV t p) :
  nnR e l t q=0∧rsE d A B (nnE e l t q) (nnL e l t q) (nnT e l t q)=0∧aqL d A B e l t L≤vaL d A B (nnE e l t q) (nnL e l t q) (nnT e l t q)∧vaH d A B (nnE e l t q) (nnL e l t q) (nnT e l t q)≤aqU d A B e l t L:=by
 have hB':=hB
 unfold afB rsB at hB'
 simp only[Bool.and_eq_true,Bool.not_eq_true'] at hB'
 obtain⟨⟨hr,hs⟩,hL,he⟩:=hB'
 have h8:=xsc_8 hL hp
 have hq8:-8≤q∧q≤8:=by
  rw[hq]
  unfold pfV
  cases p.1 != t
  ·show -8≤p.2.1∧p.2.1≤8; omega
  ·show -8≤IntKind.i64.wrap (0-p.2.1)∧IntKind.i64.wrap (0-p.2.1)≤8
   rw[i64_in _ (by omega)]; omega
 have hpt:ptB q=true:=by unfold ptB; rw[decide_eq_true hq8.1,decide_eq_true hq8.2]; rfl
 have h0:0<e:=by
  have:=(stB_in hs).1.1
  have:e≠0:=beq_eq_false_iff_ne.1 he
  simp only at *
  omega
 have hN:nnB e l t q=true:=by unfold nnB; rw[hs,hpt,he]; rfl
 have e1:nnE e l t q=nxE e:=by unfold nnE; rw[hN]; rfl
 have e2:nnL e l t q=nxL l t q:=by unfold nnL; rw[hN]; rfl
 have e3:nnT e l t q=nxT t q:=by unfold nnT; rw[hN]; rfl
 have hR:rsB d A B (nxE e) (nxL l t q) (nxT t q)=true:=by
  unfold rsB
  rw[hr,show stB (nxE e,nxL l t q,nxT t q,())=true from nx_st hs h0]; rfl
 rw[e1,e2,e3]
 obtain⟨j,hj,ej⟩:=List.mem_iff_getElem.1 hp
 have eH:(afH (d,A,B) e l t L).getD j (0,0,())=hv (d,A,B) (nxG e l t q):=by
  unfold afH
  rw[List.getD_eq_getElem?_getD,List.getElem?_map,List.getElem?_eq_getElem hj,ej,hq]; rfl
 refine⟨?_,?_,?_,?_⟩
 ·unfold nnR; rw[hs,hpt,he]; rfl
 ·unfold rsE; rw[hR]; rfl
 ·unfold aqL vaL
  rw[hB,hR,cond_true,cond_true]
  have:=fs_lo (afH (d,A,B) e l t L) (xsc L).length j hj
  rw[eH] at this
  exact this
 ·unfold aqU vaH
  rw[hB,hR,cond_true,cond_true]
  have:=fs_hi (afH (d,A,B) e l t L) (xsc L).length j hj
  rw[eH] at this
  exact this
noncomputable def fsShe1:FuncId→Option Fsp:=fun g=>
 if g=46 then some qckS else
 if g=47 then some qzoS else
 if g=85 then some qcoS else
 fsShe0 g
theorem fsShe1_ok:FsOk fsShe1:=
 fs_cons qckS_ok <|
 fs_cons qzoS_ok <|
 fs_cons qcoS_ok <|
 fsShe0_ok
set_option maxRecDepth 100000 in
theorem qov_text (N n0:Nat) (α:Type) (l:List SnI) (k:AOut→Option α):evFn real tab ((twN fsShe1 spM0).env real tab N (n0+30)) N Tryz.f48 α [.ro (.recd (.cons (.int .i64) (.cons (.int .i64) (.cons (.recd (.cons (.int .i64) (.cons (.int .i64) .nil))) .nil)))) l] k =
 afterL (iterL N (fun (x:Int × PUnit)=>bif decide (x.fst<(↑l.length:Int)) then if 0≤x.fst∧x.fst<(↑l.length:Int) then if 0≤IntKind.i64.wrap (x.fst+1) ∧
 IntKind.i64.wrap (x.fst+1)≤(↑l.length:Int) then afterL (iterL N (fun (x_1:Int × Int × Int × Int × Int × PUnit)=>bif decide (x_1.fst<(↑(List.drop (IntKind.i64.wrap (x.fst
 + 1)).toNat l).length:Int)) then if 0≤x_1.fst∧x_1.fst<(↑(List.drop (IntKind.i64.wrap (x.fst+1)).toNat l).length:Int) then bif qspB x_1.snd.snd.snd.fst
 x_1.snd.snd.snd.snd.fst then bif qspB ((List.drop (IntKind.i64.wrap (x.fst+1)).toNat l).getD x_1.fst.toNat (0,0,(0,0,()),())).snd.snd.fst.fst ((List.drop (IntKind.i64.wrap
 (x.fst+1)).toNat l).getD x_1.fst.toNat (0,0,(0,0,()),())).snd.snd.fst.snd.fst then bif qspB x_1.snd.snd.snd.fst x_1.snd.snd.snd.snd.fst&&qspB ((List.drop (IntKind.i64.wrap
 (x.fst+1)).toNat l).getD x_1.fst.toNat (0,0,(0,0,()),())).snd.snd.fst.fst ((List.drop (IntKind.i64.wrap (x.fst+1)).toNat l).getD x_1.fst.toNat (0,0,(0,0,()),
 ())).snd.snd.fst.snd.fst then bif qcn (x_1.snd.snd.snd.fst-((List.drop (IntKind.i64.wrap (x.fst+1)).toNat l).getD x_1.fst.toNat (0,0,(0,0,()),())).snd.snd.fst.fst)
 (x_1.snd.snd.snd.snd.fst-((List.drop (IntKind.i64.wrap (x.fst+1)).toNat l).getD x_1.fst.toNat (0,0,(0,0,()),())).snd.snd.fst.snd.fst)==-1 then finL (bif decide (x_1.fst ≥
 0) then finL (k (AOut.ret (AVal.tup [AVal.int IntKind.i64 x.fst,AVal.int IntKind.i64 (IntKind.i64.wrap (IntKind.i64.wrap (x.fst+1)+x_1.fst))]))) else some (LRes.cont
 (IntKind.i64.wrap (x.fst+1),PUnit.unit))) else some (LRes.cont (IntKind.i64.wrap (x_1.fst+1),x_1.snd.fst,x_1.snd.snd.fst,x_1.snd.snd.snd.fst,x_1.snd.snd.snd.snd.fst,
 PUnit.unit)) else none else some (LRes.cont (IntKind.i64.wrap (x_1.fst+1),x_1.snd.fst,x_1.snd.snd.fst,x_1.snd.snd.snd.fst,x_1.snd.snd.snd.snd.fst,PUnit.unit)) else some
 (LRes.cont (IntKind.i64.wrap (x_1.fst+1),x_1.snd.fst,x_1.snd.snd.fst,x_1.snd.snd.snd.fst,x_1.snd.snd.snd.snd.fst,PUnit.unit)) else none else some (LRes.brk 0 (x_1.fst,
 x_1.snd.fst,x_1.snd.snd.fst,x_1.snd.snd.snd.fst,x_1.snd.snd.snd.snd.fst,PUnit.unit))) (0,(l.getD x.fst.toNat (0,0,(0,0,()),())).fst,(l.getD x.fst.toNat (0,0,(0,0,()),
 ())).snd.fst,(l.getD x.fst.toNat (0,0,(0,0,()),())).snd.snd.fst.fst,(l.getD x.fst.toNat (0,0,(0,0,()),())).snd.snd.fst.snd.fst,PUnit.unit)) fun (id:Nat) (y:Int ×
 Int × Int × Int × Int × PUnit)=>if id=0 then some (LRes.cont (IntKind.i64.wrap (x.fst+1),PUnit.unit)) else none else none else none else some (LRes.brk 0 (x.fst,
 PUnit.unit))) (0,PUnit.unit)) fun (id:Nat) (y:Int × PUnit)=>if id=0 then k (AOut.ret (AVal.tup [AVal.int IntKind.i64 (-1),AVal.int IntKind.i64 (-1)])) else none:=by
 kernel_rfl
abbrev QvI:=Int × Int × Int × Int × Int × Unit
def qovG {α:Type} (k:AOut→Option α) (i:Int) (D:List SnI) (x:QvI):Option (LRes QvI (LRes (Int × Unit) α)):=
 bif decide (x.1<(D.length:Int)) then
  if 0≤x.1∧x.1<(D.length:Int) then
   bif qspB x.2.2.2.1 x.2.2.2.2.1 then
    bif qspB (D.getD x.1.toNat snD).x (D.getD x.1.toNat snD).y then
     bif qspB x.2.2.2.1 x.2.2.2.2.1&&qspB (D.getD x.1.toNat snD).x (D.getD x.1.toNat snD).y then
      bif qcn (x.2.2.2.1-(D.getD x.1.toNat snD).x) (x.2.2.2.2.1-(D.getD x.1.toNat snD).y)==-1 then
       finL (bif decide (x.1≥0) then finL (k (.ret (.tup [.int .i64 i,.int .i64 (IntKind.i64.wrap (IntKind.i64.wrap (i+1)+x.1))]))) else some (.cont (IntKind.i64.wrap (i+1),())))
      else some (.cont (IntKind.i64.wrap (x.1+1),x.2.1,x.2.2.1,x.2.2.2.1,x.2.2.2.2.1,()))
     else none
    else some (.cont (IntKind.i64.wrap (x.1+1),x.2.1,x.2.2.1,x.2.2.2.1,x.2.2.2.2.1,()))
   else some (.cont (IntKind.i64.wrap (x.1+1),x.2.1,x.2.2.1,x.2.2.2.1,x.2.2.2.2.1,()))
  else none
 else some (.brk 0 (x.1,x.2.1,x.2.2.1,x.2.2.2.1,x.2.2.2.2.1,()))
def qovF {α:Type} (N:Nat) (l:List SnI) (k:AOut→Option α) (x:Int × Unit):Option (LRes (Int × Unit) α):=
 bif decide (x.1<(l.length:Int)) then
  if 0≤x.1∧x.1<(l.length:Int) then
   if 0≤IntKind.i64.wrap (x.1+1)∧IntKind.i64.wrap (x.1+1)≤(l.length:Int) then
    afterL (iterL N (qovG k x.1 (l.drop (IntKind.i64.wrap (x.1+1)).toNat)) (0,(l.getD x.1.toNat snD).1,(l.getD x.1.toNat snD).2.1,(l.getD x.1.toNat snD).2.2.1.1,(l.getD x.1.toNat snD).2.2.1.2.1,())) fun id _=>if id=0 then some (.cont (IntKind.i64.wrap (x.1+1),())) else none
   else none
  else none
 else some (.brk 0 (x.1,()))
theorem qov_typed (N n0:Nat) (α:Type) (l:List SnI) (k:AOut→Option α):evFn real tab ((twN fsShe1 spM0).env real tab N (n0+30)) N Tryz.f48 α [.ro (.recd (.cons (.int .i64) (.cons (.int .i64) (.cons (.recd (.cons (.int .i64) (.cons (.int .i64) .nil))) .nil)))) l] k =
 afterL (iterL N (qovF N l k) (0,())) fun id _=>if id=0 then k (.ret (.tup [.int .i64 (-1),.int .i64 (-1)])) else none:=qov_text N n0 α l k
theorem find_from {σ α:Type} {f:σ→Option (LRes σ α)} {K:Nat→σ→Option α} (st:Nat→σ) (p:Nat→Bool) {b:Nat} {y:σ} (R:Nat→Option α) (n:Nat) (h:∀i,i<n→f (st i)=bif p i then finL (R i) else some (.cont (st (i+1)))) (hend:f (st n)=some (.brk b y)):∀k m,m+k=n→∀N,k<N→afterL (iterL N f (st m)) K=match (List.range' m k).find? p with|some i=>R i|none=>K b y
 |0,m,hm,N,hN=>by
  cases N with
  |zero=>omega
  |succ N=>
   have:m=n:=by omega
   subst this
   simp only[iterL,hend]
   rfl
 |k+1,m,hm,N,hN=>by
  cases N with
  |zero=>omega
  |succ N=>
   have hf:=h m (by omega)
   have ih:=find_from (K:=K) st p R n h hend k (m+1) (by omega) N (by omega)
   rw[List.range'_succ,List.find?_cons]
   cases hp:p m
   ·rw[hp] at hf
    rw[←ih]
    conv=>lhs; unfold iterL
    rw[hf]
    rfl
   ·rw[hp,cond_true] at hf
    simp only[iterL,hf]
    cases hR:R m<;>simp[afterL,finL]
theorem find_loop' {σ α:Type} {f:σ→Option (LRes σ α)} {K:Nat→σ→Option α} (st:Nat→σ) (n:Nat) (p:Nat→Bool) {b:Nat} {y:σ} (R:Nat→Option α) (h:∀i,i<n→f (st i)=bif p i then finL (R i) else some (.cont (st (i+1)))) (hend:f (st n)=some (.brk b y)) {N:Nat} (hN:n<N):afterL (iterL N f (st 0)) K=match (List.range n).find? p with|some i=>R i|none=>K b y:=by
 rw[find_from st p R n h hend n 0 (by omega) N hN,←List.range_eq_range']
def qvB (a b:SnI):Bool:=qspB a.x a.y&&(qspB b.x b.y&&qcn (a.x-b.x) (a.y-b.y)==-1)
def qvJ (l:List SnI) (i:Nat):Option Nat:=(List.range (l.length-(i+1))).find? fun j=>qvB (l.getD i snD) (l.getD (i+1+j) snD)
def qvI (l:List SnI):Option Nat:=(List.range l.length).find? fun i=>(qvJ l i).isSome
def qvX (l:List SnI):Int:=match qvI l with
 |none=>-1
 |some i=>(i:Int)
def qvY (l:List SnI):Int:=match qvI l with
 |none=>-1
 |some i=>((i+1+(qvJ l i).getD 0:Nat):Int)
theorem qov_in {α:Type} {l:List SnI} (hl:l.length≤maxLen) {i:Nat} (hi:i<l.length) (k:AOut→Option α):qovF (l.length+1) l k ((i:Int),())=bif (qvJ l i).isSome then finL (k (.ret (.tup [.int .i64 (i:Int),.int .i64 ((i+1+(qvJ l i).getD 0:Nat):Int)]))) else some (.cont (((i+1:Nat):Int),())):=by
 have hm:maxLen=9223372036854775807:=rfl
 unfold qovF
 simp only[lt_len hi,cond_true,in_len hi,if_pos,and_self,Int.toNat_natCast,wrap_next hi hl]
 rw[if_pos ⟨by omega,by omega⟩]
 have dl:(l.drop (i+1)).length=l.length-(i+1):=List.length_drop
 have dg:∀j,(l.drop (i+1)).getD j snD=l.getD (i+1+j) snD:=fun j=>by
  rw[List.getD_eq_getElem?_getD,List.getD_eq_getElem?_getD,List.getElem?_drop]
 refine (find_loop' (f:=qovG k (i:Int) (l.drop (i+1))) (fun j:Nat=>((j:Int),(l.getD i snD).1,(l.getD i snD).2.1,(l.getD i snD).2.2.1.1,(l.getD i snD).2.2.1.2.1,())) (l.length-(i+1)) (fun j=>qvB (l.getD i snD) (l.getD (i+1+j) snD)) (b:=0) (y:=(((l.length-(i+1):Nat):Int),(l.getD i snD).1,(l.getD i snD).2.1,(l.getD i snD).2.2.1.1,(l.getD i snD).2.2.1.2.1,())) (fun j=>finL (k (.ret (.tup [.int .i64 (i:Int),.int .i64 ((i+1+j:Nat):Int)])))) (fun j hj=>?_) ?_ (N:=l.length+1) (by omega)).trans ?_
 ·have hj':j<(l.drop (i+1)).length:=by omega
  unfold qovG qvB
  have e1:decide ((j:Int)≥0)=true:=decide_eq_true (by omega)
  have e2:IntKind.i64.wrap (IntKind.i64.wrap ((i:Int)+1)+(j:Int))=((i+1+j:Nat):Int):=by
   rw[wrap_next hi hl,show ((i+1:Nat):Int)+(j:Int)=((i+1+j:Nat):Int) by omega,wrap_small (n:=i+1+j) (by omega)]
  simp only[e1,e2,dl,lt_len hj,cond_true,in_len hj,if_pos,and_self,decide_true,Int.toNat_natCast,dg,wrap_next hj (show l.length-(i+1)≤maxLen by omega)]
  cases qspB (l.getD i snD).x (l.getD i snD).y
  ·rfl
  cases qspB (l.getD (i+1+j) snD).x (l.getD (i+1+j) snD).y
  ·rfl
  cases qcn ((l.getD i snD).x-(l.getD (i+1+j) snD).x) ((l.getD i snD).y-(l.getD (i+1+j) snD).y)==-1<;>rfl
 ·unfold qovG
  simp only[dl,not_lt_len,cond_false]
 ·unfold qvJ
  cases (List.range (l.length-(i+1))).find? fun j=>qvB (l.getD i snD) (l.getD (i+1+j) snD) with
  |none=>rfl
  |some j=>rfl
theorem qov_eq {α:Type} {l:List SnI} (hl:l.length≤maxLen) (k:AOut→Option α):(afterL (iterL (l.length+1) (qovF (l.length+1) l k) (0,())) fun id _=>if id=0 then k (.ret (.tup [.int .i64 (-1),.int .i64 (-1)])) else none)=k (.ret (.tup [.int .i64 (qvX l),.int .i64 (qvY l)])):=by
 refine (find_loop' (f:=qovF (l.length+1) l k) (fun i:Nat=>((i:Int),())) l.length (fun i=>(qvJ l i).isSome) (b:=0) (y:=((l.length:Int),())) (fun i=>k (.ret (.tup [.int .i64 (i:Int),.int .i64 ((i+1+(qvJ l i).getD 0:Nat):Int)]))) (fun i hi=>qov_in hl hi k) ?_ (by omega)).trans ?_
 ·unfold qovF
  simp only[not_lt_len,cond_false]
 ·unfold qvX qvY qvI
  cases (List.range l.length).find? fun i=>(qvJ l i).isSome with
  |none=>rfl
  |some i=>rfl
noncomputable def qovS:Fsp:=fun _ args k=>match args with
 | [.ro (.recd (.cons (.int .i64) (.cons (.int .i64) (.cons (.recd (.cons (.int .i64) (.cons (.int .i64) .nil))) .nil)))) l]=>k (.ret (.tup [.int .i64 (qvX l),.int .i64 (qvY l)]))
 |_=>none
theorem qovS_ok:FspOk Tryz.prog 48 qovS:=tower_N fsShe1_ok spM0_ok ⟨Tryz.func48,fun _ _=>by kernel_rfl⟩ (by intro α args k; unfold qovS; split<;>rfl) fun args out hSm hEq=>by
 unfold qovS at hEq
 split at hEq
 ·rename_i l
  exact⟨List.length (α:=SnI) l+1,30,((qov_typed _ 0 AOut l some).trans (qov_eq (hSm _ (.head _)).len some)).trans hEq⟩
 ·cases hEq
end Go.Proofs.YtneedmplkodcjaaGreat
