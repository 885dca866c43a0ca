/- Parts of the proof, in build order. -/
import Derived.Test.YtenolfpkkgcgcaaGreatM11
import Derived.Maps.RangeRun
import Derived.Shelf.SlSortCmp.NoneTotal
import Derived.Test.YtenolfpkkgcgcaaGreatM8
import Derived.Test.YtenolfpkkgcgcaaGreatM10
namespace Go.Proofs.YtenolfpkkgcgcaaGreat
open Go.RowKit
open Go.ChangeMaps (setBlock)
noncomputable def sO8:Array Oper:=cdOps sR8
theorem sR8_eq:sR8=.region 8 sO8 false:=by kernel_rfl
set_option maxRecDepth 100000 in
theorem sc_o8' (N n0:Nat) (t n:Int) (xs:List ScI):evOps real tab ((twY fsM4 spM0).env real tab N n0) false sO8 sO8.toList ⟨aN [(9,.own 0),(10,.op 1 0)],[s38 xs,.box true [.int .i64 t,.int .i64 n]]⟩ pairE =
 if (xs.length + [(t,n,())].length) * 16≤room then some (.normal,⟨aN [(9,.own 3),(10,.op 1 0),(28,.own 0),(29,scQ t n),(30,.own 2),(31,.own 3)],[.dead,.box true [.int .i64 t,.int .i64 n],s38 [(t,n,())],s38 (xs++[(t,n,())])]⟩) else none:=by kernel_rfl
theorem sc_o8 (N n0:Nat) (t n:Int) {xs:List ScI} (hx:xs.length≤1000):evOps real tab ((twY fsM4 spM0).env real tab N n0) false sO8 sO8.toList ⟨aN [(9,.own 0),(10,.op 1 0)],[s38 xs,.box true [.int .i64 t,.int .i64 n]]⟩ pairE =
 some (.normal,⟨aN [(9,.own 3),(10,.op 1 0),(28,.own 0),(29,scQ t n),(30,.own 2),(31,.own 3)],[.dead,.box true [.int .i64 t,.int .i64 n],s38 [(t,n,())],s38 (xs++[(t,n,())])]⟩):=by
 rw [sc_o8',if_pos (by simp only [room,List.length_cons,List.length_nil]; omega)]
theorem sO7_stay:∀ (i:Nat) o,sO7[i]?=some o→o.dst≠some 23:=fun i o h=>by
 have:sO7.toList.all (fun o=>o.dst != some 23)=true:=by kernel_rfl
 have hm:o∈sO7.toList:=List.mem_of_getElem? (by rw [Array.getElem?_toList]; exact h)
 have:=List.all_eq_true.1 this o hm
 intro e; rw [e] at this; exact absurd this (by decide)
theorem sO8_stay:∀ (i:Nat) o,sO8[i]?=some o→o.dst≠some 23:=fun i o h=>by
 have:sO8.toList.all (fun o=>o.dst != some 23)=true:=by kernel_rfl
 have hm:o∈sO8.toList:=List.mem_of_getElem? (by rw [Array.getElem?_toList]; exact h)
 have:=List.all_eq_true.1 this o hm
 intro e; rw [e] at this; exact absurd this (by decide)
def scDec (e:MapEntry):ScI:=match e.key with
 | .agg arr=>match arr.toList with
   | [.int _ a,.int _ b]=>(a,b,())
   | _=>(0,0,())
 | _=>(0,0,())
theorem nm_flat:∀ x:nmSh.ty,∀ c∈nmSh.cells x,c.flat0=true:=fun x c hc=>by
 have:nmSh.cells x=[.int .i64 x.1,.int .i64 x.2.1]:=rfl
 rw [this] at hc
 rcases List.mem_cons.1 hc with rfl | hc
 ·rfl
 ·rw [List.mem_singleton.1 hc]; rfl
theorem rd_flat:∀ x:RdSh.ty,∀ c∈RdSh.cells x,c.flat0=true:=fun x c hc=>by
 have:RdSh.cells x=[.int .i64 x.1,.int .i64 x.2.1,.int .i64 x.2.2.1]:=rfl
 rw [this] at hc
 rcases List.mem_cons.1 hc with rfl | hc
 ·rfl
 ·rcases List.mem_cons.1 hc with rfl | hc
  ·rfl
  ·rw [List.mem_singleton.1 hc]; rfl
theorem scDec_rep {h g w} {q:nmSh.ty} {e:MapEntry} (r:Rep h g w (nmSh.val q) e.key):scDec e=q∧e.key=.agg #[.int .i64 q.1,.int .i64 q.2.1]:=by
 have hv:nmSh.val q=.agg [.int .i64 q.1,.int .i64 q.2.1]:=rfl
 rw [hv] at r
 have hk:e.key=.agg #[.int .i64 q.1,.int .i64 q.2.1]:=by
  generalize e.key=k at r
  cases r with
  | agg _ arr hl hr=>
    obtain ⟨L⟩:=arr
    match L,hl with
    | [x,y],_=>
      have h0:=hr 0 _ x rfl rfl
      have h1:=hr 1 _ y rfl rfl
      cases h0; cases h1; rfl
 refine ⟨?_,hk⟩
 unfold scDec; rw [hk]; rfl
def LpI (K0:Nat→Prop) (g0:Gh) (w0:World) (r0 bm:Nat) (es:Array MapEntry) (clock:Nat) (ts:List MapEntry) (a:Act) (w:World):Prop:=
 ∃ K g,Mid K0 g0 w0 [s38 (ts.map scDec)] (aN [(9,.own 0)]) a w K g∧a.tmps.getD 23 Go.undef=.pointer (some ⟨r0,0,none⟩)∧¬ K r0∧¬ g.M r0∧blockOf (g.ρ 0)≠some r0∧K bm∧r0 < w.heap.size ∧
   w.heap[r0]?=some (.mapIter (some bm) clock (ts.map (·.born)).toArray clock)∧w.heap[bm]?=some (.map es clock)∧(∀ e∈ts,e∈es.toList)∧(ts.map (·.born)).Nodup
def lpMu (r0:Nat) (es:Array MapEntry) (w:World):Nat:=match w.heap[r0]? with
 | some (.mapIter _ _ seen _)=>(leftOf es seen).size
 | _=>0
theorem only0 {g:Gh} {b:ABlk} {r:Nat} (h:blockOf (g.ρ 0)≠some r):∀ i,alive [b] i→blockOf (g.ρ i)≠some r:=fun i ⟨c,hc,_⟩=>by
 cases i with
 | zero=>exact h
 | succ i=>simp at hc
theorem ext_tuple {P:Program} (arr:Array Value) (i:Nat) (v:Value) (w:World) (h:arr[i]?=some v):(Instr.extract (.tuple arr) i).run P w=.ok v w:=by
 simp [Instr.extract,h]
theorem left_mem {es:Array MapEntry} {seen:List Nat} {e:MapEntry} (h:e∈(leftOf es seen.toArray).toList):e∈es.toList∧e.born ∉ seen:=by
 unfold leftOf at h
 rw [Array.mem_toList_iff,Array.mem_filter] at h
 refine ⟨by rw [Array.mem_toList_iff]; exact h.1,fun hm=>?_⟩
 have:=h.2
 simp [hm] at this
theorem lp_round {K0:Nat→Prop} {g0:Gh} {w0:World} {r0 bm:Nat} {es:Array MapEntry} {clock:Nat} (hold:∀ x∈es.toList,x.born < clock) (hnd:(es.toList.map (·.born)).Nodup) (hsz:es.size≤1000)
  (hkey:∀ e∈es.toList,e.key=.agg #[.int .i64 (scDec e).1,.int .i64 (scDec e).2.1]) {Q:Exit→Act→World→Prop}
  (hQ:∀ ts a w,LpI K0 g0 w0 r0 bm es clock ts a w→(leftOf es (ts.map (·.born)).toArray).size=0→Q (.exit 0) a w) {ts:List MapEntry} {a:Act} {w:World} (hI:LpI K0 g0 w0 r0 bm es clock ts a w) :
  WpR Tryz.prog sLp (Exit.then (fun a' w'=>(∃ ts,LpI K0 g0 w0 r0 bm es clock ts a' w')∧lpMu r0 es w' < lpMu r0 es w) Q) a w:=by
 obtain ⟨K,g,m,hit,h1,h2,h3,hK,hr,hri,hmb,hts,htn⟩:=hI
 have hts35:a.tmps.size=35:=m.tr.1.symm
 have hbr:bm≠r0:=fun e=>h1 (e ▸ hK)
 rw [sLp_eq]
 refine wpR_seq (wpR_region ?_)
 rw [sOs_size.2.1]
 show wpOpsIn (FW none) 0 Tryz.prog sO6 _ [0,1] a w
 refine wpOps_cons sO6_0.1 sO6_0.2.1 ?_
 have hev:a.eval (.tmp 23)=.pointer (some ⟨r0,0,none⟩):=hit
 rcases run_next_at (P:=Tryz.prog) w (opAt sO6 0).type r0 bm clock clock (ts.map (·.born)).toArray es clock hri hmb hold (Nat.le_refl _) with ⟨hz,hrun⟩ | ⟨e,he,w1,hw1,hrun⟩
 ·refine wp_value (x:=.tuple #[.bool false]) (w':=w) (by simp [execOp,sO6_0.2.2.2,hev,hrun,Result.andThen]) ?_
  rw [sO6_0.2.2.1]
  refine wpOps_cons sO6_1.1 sO6_1.2.1 ?_
  have he2:(a.put (some 24) (.tuple #[.bool false])).eval (.tmp 24)=.tuple #[.bool false]:=put_getD_same a 24 _ (by omega)
  refine wp_value (x:=.bool false) (w':=w) (by simp [execOp,sO6_1.2.2.2,he2,ext_tuple #[.bool false] 0 (.bool false) w rfl,Result.andThen]) ?_
  rw [sO6_1.2.2.1]
  have hm2:Mid K0 g0 w0 [s38 (ts.map scDec)] (aN [(9,.own 0)]) ((a.put (some 24) (.tuple #[.bool false])).put (some 25) (.bool false)) w K g:=(m.put (some 24) (.any _)).put (some 25) (.any _)
  refine wpR_seq (wpR_cond (t:=false) (put_getD_same (a.put (some 24) (.tuple #[.bool false])) 25 (.bool false) (by rw [put_size]; omega)) (wpR_exit ?_))
  refine hQ ts _ w ⟨K,g,hm2,?_,h1,h2,h3,hK,hr,hri,hmb,hts,htn⟩ hz
  rw [put_getD _ _ _ (by decide),put_getD _ _ _ (by decide)]; exact hit
 ·obtain ⟨he1,he2⟩:=left_mem he
  have hw1s:w1.heap=w.heap:=by rcases hw1 with rfl | rfl<;>rfl
  refine wp_value (x:=.tuple #[.bool true,e.key,e.val]) (w':=setBlock w1 r0 (.mapIter (some bm) clock ((ts.map (·.born)).toArray.push e.born) clock)) (by simp [execOp,sO6_0.2.2.2,hev,hrun,Result.andThen]) ?_
  rw [sO6_0.2.2.1]
  generalize hw2:setBlock w1 r0 (.mapIter (some bm) clock ((ts.map (·.born)).toArray.push e.born) clock)=w2
  have hw2h:w2.heap=w.heap.setIfInBounds r0 (.mapIter (some bm) clock ((ts.map (·.born)).toArray.push e.born) clock):=by rw [← hw2,← hw1s]; rfl
  have hw2o:w2.os=w.os∧w2.tape=w.tape∧w2.output=w.output:=by rw [← hw2]; rcases hw1 with rfl | rfl<;>exact ⟨rfl,rfl,rfl⟩
  have hw2s:w2.heap.size=w.heap.size:=by rw [hw2h,Array.size_setIfInBounds]
  have hw2n:∀ n,n≠r0→w2.heap[n]?=w.heap[n]?:=fun n hn=>by rw [hw2h,Array.getElem?_setIfInBounds,if_neg (Ne.symm hn)]
  have hw2r:w2.heap[r0]?=some (.mapIter (some bm) clock ((ts++[e]).map (·.born)).toArray clock):=by
   rw [hw2h,Array.getElem?_setIfInBounds,if_pos rfl,if_pos hr,List.map_append,List.map_cons,List.map_nil,List.push_toArray]
  clear hrun hw2 hw2h
  have m1:=m.turn (w':=w2) (r:=r0) hw2o.1 hw2o.2.1 hw2o.2.2 (by omega) (fun n _ hn=>hw2n n hn) h1 h2 (only0 h3)
  refine wpOps_cons sO6_1.1 sO6_1.2.1 ?_
  have he3:(a.put (some 24) (.tuple #[.bool true,e.key,e.val])).eval (.tmp 24)=.tuple #[.bool true,e.key,e.val]:=put_getD_same a 24 _ (by omega)
  refine wp_value (x:=.bool true) (w':=w2) (by simp [execOp,sO6_1.2.2.2,he3,ext_tuple #[.bool true,e.key,e.val] 0 (.bool true) w2 rfl,Result.andThen]) ?_
  rw [sO6_1.2.2.1]
  have m2:Mid K0 g0 w0 [s38 (ts.map scDec)] (aN [(9,.own 0)]) ((a.put (some 24) (.tuple #[.bool true,e.key,e.val])).put (some 25) (.bool true)) w2 K g:=(m1.put (some 24) (.any _)).put (some 25) (.any _)
  refine wpR_seq (wpR_cond (t:=true) (put_getD_same (a.put (some 24) (.tuple #[.bool true,e.key,e.val])) 25 (.bool true) (by rw [put_size]; omega)) (wpR_skip ?_))
  have hit2:((a.put (some 24) (.tuple #[.bool true,e.key,e.val])).put (some 25) (.bool true)).tmps.getD 23 Go.undef=.pointer (some ⟨r0,0,none⟩):=by
   rw [put_getD _ _ _ (by decide),put_getD _ _ _ (by decide)]; exact hit
  generalize (a.put (some 24) (.tuple #[.bool true,e.key,e.val])).put (some 25) (.bool true)=a2 at m2 hit2
  have ha2:a2.tmps.size=35:=m2.tr.1.symm
  -- the round's body
  refine wpR_block (wpR_seq (wpR_region ?_))
  rw [sOs_size.2.2.1]
  show wpOpsIn (FW none) 0 Tryz.prog sO7 _ (0 :: List.range' 1 3) a2 w2
  refine wpOps_cons sO7_0.1 sO7_0.2.1 ?_
  have hev2:a2.eval (.tmp 23)=.pointer (some ⟨r0,0,none⟩):=hit2
  have hen:=run_entry_at (P:=Tryz.prog) w2 r0 bm clock (ts.map (·.born)).toArray es clock e (by rw [hw2r,List.map_append,List.map_cons,List.map_nil,List.push_toArray]) ((hw2n bm hbr).trans hmb) he1 hnd
  refine wp_value (x:=.tuple #[e.key,e.val]) (w':=w2) (by simp [execOp,sO7_0.2.2.2,hev2,hen,Result.andThen]) ?_
  rw [sO7_0.2.2.1]
  have rk:Rep [s38 (ts.map scDec)] g w2 (.tup [scQ (scDec e).1 (scDec e).2.1,.any]) (.tuple #[e.key,e.val]):=by
   refine .tup _ _ rfl fun j c x hc hx=>?_
   match j with
   | 0=>
     simp at hc hx; subst hc; subst hx
     rw [hkey e he1]
     refine .agg _ _ rfl fun j c x hc hx=>?_
     match j with
     | 0=>simp at hc hx; subst hc; subst hx; exact .int _ _
     | 1=>simp at hc hx; subst hc; subst hx; exact .int _ _
     | j + 2=>simp at hc
   | 1=>simp at hc hx; subst hc; exact .any _
   | j + 2=>simp at hc
  have m3:=(m2.put (some 26) rk).lock (r:=r0) (by omega) (only0 h3)
  have e7:sO7.toList.tail.length=3:=by rw [List.length_tail,Array.length_toList,sOs_size.2.2.1]
  rw [← e7]
  refine mid_opsT tabOk (tower_ok mixedT tabOk (twY_ok fsM4_ok spM0_ok) 0 0) (List.drop_one (l:=sO7.toList)) (sc_r7 0 0 (scDec e).1 (scDec e).2.1 (ts.map scDec)) sO7_stay (show Mid K0 g0 w0 [s38 (ts.map scDec)] (aN [(9,.own 0),(26,.tup [scQ (scDec e).1 (scDec e).2.1,.any])]) _ w2 _ g from m3) fun a4 w4 g4 l4 d4 f4 m4=>?_
  have m5:Mid K0 g0 w0 [s38 (ts.map scDec),.box true [.int .i64 (scDec e).1,.int .i64 (scDec e).2.1]] (aN [(9,.own 0),(10,.op 1 0)]) a4 w4 _ g4:=m4.weak [9,10]
  show WpR Tryz.prog sR8 _ a4 w4
  rw [sR8_eq]
  refine wpR_region ?_
  have e8:List.range sO8.size=List.range' 0 sO8.toList.length:=by rw [List.range_eq_range',Array.length_toList]
  rw [e8]
  have hlen:ts.length≤es.size:=by
   have:=List.Nodup.length_le_of_subset htn (l₂:=es.toList.map (·.born)) fun x hx=>by
    obtain ⟨q,hq,rfl⟩:=List.mem_map.1 hx
    exact List.mem_map.2 ⟨q,hts q hq,rfl⟩
   simpa using this
  refine mid_opsT tabOk (tower_ok mixedT tabOk (twY_ok fsM4_ok spM0_ok) 0 0) (i:=0) List.drop_zero (sc_o8 0 0 (scDec e).1 (scDec e).2.1 (xs:=ts.map scDec) (by rw [List.length_map]; omega)) sO8_stay m5 fun a6 w6 g6 l6 d6 f6 m6=>?_
  -- put together
  have l46:=l4.trans l6
  have e3:(((a2.put (some 26) (.tuple #[e.key,e.val])).tmps).getD 23 Go.undef)=.pointer (some ⟨r0,0,none⟩):=by rw [put_getD _ _ _ (by decide)]; exact hit2
  have own3:([.dead,.box true [.int .i64 (scDec e).1,.int .i64 (scDec e).2.1],s38 [((scDec e).1,(scDec e).2.1,())],s38 (ts.map scDec++[((scDec e).1,(scDec e).2.1,())])]:List ABlk)[3]?=some (s38 (ts.map scDec++[((scDec e).1,(scDec e).2.1,())])):=rfl
  have r9:=m6.tr.get 9
  have v9:a6.tmps.getD 9 Go.undef=g6.ρ 3∧(a6.tmps.getD 9 Go.undef).oneCell'=true:=by
   have:(aN [(9,.own 3),(10,.op 1 0),(28,.own 0),(29,scQ (scDec e).1 (scDec e).2.1),(30,.own 2),(31,.own 3)]).getD 9 .any=.own 3:=rfl
   rw [this] at r9
   generalize a6.tmps.getD 9 Go.undef=v at r9
   cases r9 with | own _ _ _ hc hv=>exact ⟨hv _ _ _ _ own3,hc⟩
  have ne9:blockOf (g6.ρ 3)≠some r0:=fun hb=>(m6.st.sep 3 r0 ⟨_,own3,by simp⟩ hb).1 (.inr rfl)
  have nM:¬ g6.M r0:=fun hM=>(l46.new r0 hM).elim h2 fun h=>h (.inr rfl)
  have m7:=m6.one (i:=3) (e:=nmSh) (by decide) nm_flat own3 (tm':=aN [(9,.own 0)]) ⟨by rw [← m6.tr.1]; rfl,fun j c x hc hx=>?_⟩
  ·have df6:MRep K0 K g6 w6 a6.defers:=by rw [d6,d4,put_defers]; exact m2.df.mono (l46.less fun b hb=>.inl hb)
   have m8:=m7.unlock (K:=K) (fun b hb=>.inl hb) m.kk df6
   have hr6:w6.heap[r0]?=some (.mapIter (some bm) clock ((ts++[e]).map (·.born)).toArray clock):=(l46.k r0 (.inr rfl)).trans hw2r
   have hsz6:=l46.size
   show (∃ ts,LpI K0 g0 w0 r0 bm es clock ts a6 w6)∧lpMu r0 es w6 < lpMu r0 es w
   refine ⟨⟨ts++[e],K,⟨fun _=>g6.ρ 3,g6.M⟩,?_,f6.trans (f4.trans e3),h1,nM,ne9,hK,by omega,hr6,(l46.k bm (.inl hK)).trans ((hw2n bm hbr).trans hmb),fun q hq=>?_,?_⟩,?_⟩
   ·rw [List.map_append]; exact m8
   ·rcases List.mem_append.1 hq with h | h
    ·exact hts q h
    ·rw [List.mem_singleton.1 h]; exact he1
   ·rw [List.map_append,List.nodup_append]
    refine ⟨htn,by simp,fun x hx y hy=>?_⟩
    simp at hy
    subst hy
    rintro rfl
    exact he2 hx
   ·unfold lpMu
    rw [hr6,hri]
    simp only
    have:=left_shrinks es (ts.map (·.born)).toArray e he
    rw [List.map_append,List.map_cons,List.map_nil,← List.push_toArray]
    exact this
  ·have hj:j < 35:=by
    have:=(List.getElem?_eq_some_iff.1 hc).1
    exact this
   by_cases e9:j=9
   ·subst e9
    have hc':c=.own 0:=by
     have:(aN [(9,.own 0)])[9]?=some (AVal.own 0):=rfl
     rw [this] at hc; cases hc; rfl
    subst hc'
    have hx':a6.tmps.getD 9 Go.undef=x:=by rw [Array.getD_eq_getD_getElem?,hx]; rfl
    rw [← hx']
    exact .own 0 _ (Here.of (b:=s38 (ts.map scDec++[((scDec e).1,(scDec e).2.1,())])) rfl (by simp)) v9.2 fun _ _ _ _ _=>v9.1
   ·have hc':c=.any:=by
     have:∀ j,j < 35→j≠9→(aN [(9,.own 0)])[j]?=some AVal.any:=fun j hj h9=>by
      show ((List.replicate 35 AVal.any).set 9 (.own 0))[j]?=_
      rw [List.getElem?_set,if_neg (Ne.symm h9),List.getElem?_replicate,if_pos hj]
     rw [this j hj e9] at hc; cases hc; rfl
    subst hc'
    exact .any x
end Go.Proofs.YtenolfpkkgcgcaaGreat
namespace Go.Proofs.YtenolfpkkgcgcaaGreat
open Go.RowKit Go.Shelf Go.Sort
def scSort_ren:Go.Shelf.Ren:=⟨fun | 6=>98 | 15=>156 | 14=>155 | 28=>204 | 29=>205 | 20=>196 | 21=>197 | 22=>198 | 23=>199 | 24=>200 | 25=>201 | 26=>202 | 27=>203 | 46=>234 | 47=>235 | 48=>236 | 49=>237 | 50=>238 | 57=>251 | n=>n,fun | 22=>124 | 24=>60 | 25=>190 | 3=>3 | 39=>213 | 0=>0 | 53=>281 | 55=>118 | 4=>4 | 46=>275 | 45=>274 | 50=>250 | 5=>5 | 9=>9 | 66=>303 | 70=>306 | 76=>313 | 77=>146 | n=>n,fun | n=>n⟩
theorem scSort:Go.Proofs.SlLaysF0.n6 Tryz.prog scSort_ren:={
 mixed:=by kernel_rfl,
 f6:=⟨Tryz.f98.name,by decide,Tryz.func98.trans (congrArg some (by kernel_rfl))⟩,
 f14:=⟨Tryz.f155.name,by decide,Tryz.func155.trans (congrArg some (by kernel_rfl))⟩,
 f15:=Tryz.func156.trans (congrArg some (by kernel_rfl)),
 f20:=⟨Tryz.f196.name,by decide,Tryz.func196.trans (congrArg some (by kernel_rfl))⟩,
 f21:=⟨Tryz.f197.name,by decide,Tryz.func197.trans (congrArg some (by kernel_rfl))⟩,
 f22:=⟨Tryz.f198.name,by decide,Tryz.func198.trans (congrArg some (by kernel_rfl))⟩,
 f23:=⟨Tryz.f199.name,by decide,Tryz.func199.trans (congrArg some (by kernel_rfl))⟩,
 f24:=⟨Tryz.f200.name,by decide,Tryz.func200.trans (congrArg some (by kernel_rfl))⟩,
 f25:=⟨Tryz.f201.name,by decide,Tryz.func201.trans (congrArg some (by kernel_rfl))⟩,
 f26:=⟨Tryz.f202.name,by decide,Tryz.func202.trans (congrArg some (by kernel_rfl))⟩,
 f27:=⟨Tryz.f203.name,by decide,Tryz.func203.trans (congrArg some (by kernel_rfl))⟩,
 f28:=Tryz.func204.trans (congrArg some (by kernel_rfl)),
 f29:=Tryz.func205.trans (congrArg some (by kernel_rfl)),
 f46:=⟨Tryz.f234.name,by decide,Tryz.func234.trans (congrArg some (by kernel_rfl))⟩,
 f47:=Tryz.func235.trans (congrArg some (by kernel_rfl)),
 f48:=Tryz.func236.trans (congrArg some (by kernel_rfl)),
 f49:=⟨Tryz.f237.name,by decide,Tryz.func237.trans (congrArg some (by kernel_rfl))⟩,
 f50:=⟨Tryz.f238.name,by decide,Tryz.func238.trans (congrArg some (by kernel_rfl))⟩,
 f57:=⟨Tryz.f251.name,by decide,Tryz.func251.trans (congrArg some (by kernel_rfl))⟩,
 t0:=Tryz.underlying0,
 a0:=Tryz.isAgg0,
 z0:=Tryz.sizeOf0,
 v0:=Tryz.zeroValue0,
 t3:=Tryz.underlying3,
 a3:=Tryz.isAgg3,
 z3:=Tryz.sizeOf3,
 v3:=Tryz.zeroValue3,
 t4:=Tryz.underlying4,
 a4:=Tryz.isAgg4,
 z4:=Tryz.sizeOf4,
 v4:=Tryz.zeroValue4,
 t5:=Tryz.underlying5,
 a5:=Tryz.isAgg5,
 z5:=Tryz.sizeOf5,
 v5:=Tryz.zeroValue5,
 t9:=Tryz.underlying9,
 a9:=Tryz.isAgg9,
 z9:=Tryz.sizeOf9,
 v9:=Tryz.zeroValue9,
 t22:=Tryz.underlying124,
 a22:=Tryz.isAgg124,
 z22:=Tryz.sizeOf124,
 v22:=Tryz.zeroValue124,
 t25:=Tryz.underlying190,
 a25:=Tryz.isAgg190,
 z25:=Tryz.sizeOf190,
 v25:=Tryz.zeroValue190,
 t39:=Tryz.underlying213,
 a39:=Tryz.isAgg213,
 z39:=Tryz.sizeOf213,
 v39:=Tryz.zeroValue213,
 t45:=Tryz.underlying274,
 a45:=Tryz.isAgg274,
 z45:=Tryz.sizeOf274,
 v45:=Tryz.zeroValue274,
 t46:=Tryz.underlying275,
 a46:=Tryz.isAgg275,
 z46:=Tryz.sizeOf275,
 v46:=Tryz.zeroValue275,
 t50:=Tryz.underlying250,
 a50:=Tryz.isAgg250,
 z50:=Tryz.sizeOf250,
 v50:=Tryz.zeroValue250,
 t53:=Tryz.underlying281,
 a53:=Tryz.isAgg281,
 z53:=Tryz.sizeOf281,
 v53:=Tryz.zeroValue281,
 t55:=Tryz.underlying118,
 a55:=Tryz.isAgg118,
 z55:=Tryz.sizeOf118,
 v55:=Tryz.zeroValue118,
 t66:=Tryz.underlying303,
 a66:=Tryz.isAgg303,
 z66:=Tryz.sizeOf303,
 v66:=Tryz.zeroValue303,
 t70:=Tryz.underlying306,
 a70:=Tryz.isAgg306,
 z70:=Tryz.sizeOf306,
 v70:=Tryz.zeroValue306,
 t76:=Tryz.underlying313,
 a76:=Tryz.isAgg313,
 z76:=Tryz.sizeOf313,
 v76:=Tryz.zeroValue313,
 t77:=Tryz.underlying146,
 a77:=Tryz.isAgg146,
 z77:=Tryz.sizeOf146,
 v77:=Tryz.zeroValue146 }
abbrev ScQ:={ p:Int × Int // -1≤p.1∧p.1≤1∧0≤p.2∧p.2≤1000 }
instance:Inhabited ScQ:=⟨⟨(0,0),by decide⟩⟩
def encSc (x:ScQ):List Value:=[.int .i64 x.1.1,.int .i64 x.1.2]
def cfSc (x y:ScQ):Int:=if x.1.1=y.1.1 then x.1.2 - y.1.2 else x.1.1 - y.1.1
theorem ltSc (x y:ScQ):ltOf cfSc x y=true↔x.1.1 < y.1.1∨(x.1.1=y.1.1∧x.1.2 < y.1.2):=by
 unfold ltOf cfSc
 rw [decide_eq_true_eq]
 split<;>omega
theorem ltSc' (x y:ScQ):ltOf cfSc x y=false↔¬ (x.1.1 < y.1.1∨(x.1.1=y.1.1∧x.1.2 < y.1.2)):=by
 rw [← ltSc]; simp
theorem swoSc:SWO (ltOf cfSc) where
 irrefl x:=by rw [ltSc']; omega
 trans x y z h1 h2:=by rw [ltSc] at *; omega
 ntrans x y z h1 h2:=by rw [ltSc'] at *; omega
theorem totSc (x y:ScQ) (h1:ltOf cfSc x y=false) (h2:ltOf cfSc y x=false):x=y:=by
 rw [ltSc'] at h1 h2
 apply Subtype.ext
 apply Prod.ext<;>omega
set_option maxHeartbeats 1000000 in
theorem closSc (x y:ScQ) (W:World):Calls Tryz.prog 99 #[.agg #[.int .i64 x.1.1,.int .i64 x.1.2],.agg #[.int .i64 y.1.1,.int .i64 y.1.2]] W fun e w'=>e=.returned (.int .i64 (cfSc x y))∧∃ q os',w'=grow (W.drewN q) os':=by
 obtain ⟨⟨x1,x2⟩,hx⟩:=x
 obtain ⟨⟨y1,y2⟩,hy⟩:=y
 simp only at hx hy ⊢
 have w1:wrap64 (x1 - y1)=x1 - y1:=by unfold wrap64; omega
 have w2:wrap64 (x2 - y2)=x2 - y2:=by unfold wrap64; omega
 by_cases h:x1=y1
 ·have e:cfSc ⟨(x1,x2),hx⟩ ⟨(y1,y2),hy⟩=x2 - y2:=by unfold cfSc; simp [h]
  rw [e]
  clear hx hy w1 e
  subst h
  go_enter Tryz.func99,Tryz.ntmps99
  go_wp2
  go_ret
  exact ⟨congrArg (fun z=>Ending.returned (.int .i64 z)) w2,0,_,by rw [alloc_eq_grow,alloc_eq_grow,grow_grow]; rfl⟩
 ·have e:cfSc ⟨(x1,x2),hx⟩ ⟨(y1,y2),hy⟩=x1 - y1:=by unfold cfSc; simp [h]
  rw [e]
  have hn:(x1==y1)=false:=by simpa using h
  clear hx hy w2 e
  go_enter Tryz.func99,Tryz.ntmps99
  go_wp2
  go_ret
  exact ⟨congrArg (fun z=>Ending.returned (.int .i64 z)) w1,0,_,by rw [alloc_eq_grow,alloc_eq_grow,grow_grow]; rfl⟩
theorem cmpSc (blk off size:Nat) (w:World):CmpLays Tryz.prog 99 #[] encSc 2 cfSc blk off size w:=fun _ _ _ _ x y=>closSc x y _
theorem sortRow (blk c:Nat) (d:Array ScQ) (w:World) (hH:HoldsK encSc 2 w blk 0 d) (hblk:blk < w.heap.size) (hsz:d.size < 4611686018427387904) :
  Calls Tryz.prog 98 #[.slice (some ⟨blk,0,none⟩) d.size c,.func (.func 99) #[] #[]] w fun e w'=>
   e=.returned (.tuple #[])∧∃ n os,w'=sortWorldK encSc 2 w blk 0 n (d.toList.mergeSort fun x y=>!(ltOf cfSc) y x).toArray os:=
 AnyQ.slices_SortFunc_total scSort 2 Tryz.isAgg60 Tryz.sizeOf60 encSc (fun _=>rfl) (fun x v hv=>by simp [encSc] at hv; rcases hv with rfl | rfl<;>rfl) cfSc swoSc 99 #[] blk 0 c d w
  (enters_of Tryz.func99 (by kernel_rfl) rfl) (cmpSc blk 0 d.size w) hH hblk hsz totSc
theorem sortNone (p:Option Addr) (c:Nat) (w:World):Calls Tryz.prog 98 #[.slice p 0 c,.func (.func 99) #[] #[]] w fun e w'=>e=.returned (.tuple #[])∧w'=w:=
 AnyF.slices_SortFunc_none (P:=Tryz.prog) (ρ:=scSort_ren) { scSort with } p c (.func (.func 99) #[] #[]) w
theorem sortW_block (w:World) (blk n:Nat) (d:Array ScQ) (os:Array Obj) {b:Nat} (hb:b≠blk) (hs:b < w.heap.size):(sortWorldK encSc 2 w blk 0 n d os).heap[b]?=w.heap[b]?:=by
 have h1:(putRowK encSc 2 (Sort.ahead w n) blk 0 d).heap[b]?=w.heap[b]?:=by
  simp only [putRowK,putRow,mapBlock,Array.getElem?_modify,if_neg (Ne.symm hb)]
  rfl
 have h2:b < (putRowK encSc 2 (Sort.ahead w n) blk 0 d).heap.size:=by
  simp only [putRowK,size_putRow]; exact hs
 simp only [sortWorldK,grow]
 rw [Array.getElem?_append_left h2]
 exact h1
theorem sortW_below (w:World) (blk n:Nat) (d:Array ScQ) (os:Array Obj):(sortWorldK encSc 2 w blk 0 n d os).os=w.os∧(sortWorldK encSc 2 w blk 0 n d os).tape=w.tape∧(sortWorldK encSc 2 w blk 0 n d os).output=w.output∧w.heap.size≤(sortWorldK encSc 2 w blk 0 n d os).heap.size:=by
 refine ⟨rfl,rfl,rfl,?_⟩
 simp only [sortWorldK,grow,Array.size_append,putRowK,size_putRow]
 exact Nat.le_add_right _ _
theorem sortW_cell (w:World) (blk n:Nat) (d0 d:Array ScQ) (os:Array Obj) (hblk:blk < w.heap.size) (h0:HoldsK encSc 2 w blk 0 d0) (h:d.size=d0.size) {i j:Nat} (hi:i < d.size) (hj:j < 2):(sortWorldK encSc 2 w blk 0 n d os).cell? ⟨blk,i * 2 + j,none⟩=some ((encSc d[i]!)[j]!):=by
 have:=(holdsK_sortWorldK encSc 2 w blk 0 n d0 d os hblk h0 h (i * 2 + j) (by rw [size_flatK]; omega)).1
 rw [Nat.zero_add,get_flatK _ _ _ _ (by omega)] at this
 have e1:(i * 2 + j) / 2=i:=by omega
 have e2:(i * 2 + j) % 2=j:=by omega
 rw [e1,e2] at this
 exact this
def toQ (q:ScI):ScQ:=if h:-1≤q.1∧q.1≤1∧0≤q.2.1∧q.2.1≤1000 then ⟨(q.1,q.2.1),h⟩ else default
def ofQ (q:ScQ):ScI:=(q.1.1,q.1.2,())
theorem of_to {q:ScI} (h:-1≤q.1∧q.1≤1∧0≤q.2.1∧q.2.1≤16):ofQ (toQ q)=q:=by
 have h':-1≤q.1∧q.1≤1∧0≤q.2.1∧q.2.1≤1000:=by omega
 unfold toQ ofQ
 rw [dif_pos h']
def srt (xs:List ScI):List ScQ:=(xs.map toQ).toArray.toList.mergeSort fun x y=>!(ltOf cfSc) y x
theorem srt_len (xs:List ScI):(srt xs).length=xs.length:=by
 unfold srt
 rw [List.length_mergeSort,List.length_map]
theorem srt_eq {xs l:List ScI} (hp:xs.Perm l) (hs:l.Pairwise fun p q=>scLt p q=true) (hin:∀ q∈l,-1≤q.1∧q.1≤1∧0≤q.2.1∧q.2.1≤16):(srt xs).map ofQ=l:=by
 have p1:((srt xs).map ofQ).Perm l:=by
  unfold srt
  refine ((List.mergeSort_perm _ _).map ofQ).trans ?_
  rw [List.map_map]
  have:xs.map (ofQ ∘ toQ)=xs:=by
   refine (List.map_congr_left fun q hq=>?_).trans (List.map_id xs)
   exact of_to (hin q (hp.mem_iff.1 hq))
  rw [this]
  exact hp
 have nd:((srt xs).map ofQ).Nodup:=p1.nodup_iff.2 (hs.imp fun {p q} h e=>by subst e; rw [scLt_iff] at h; omega)
 refine sc_unique (List.pairwise_map.2 ?_) hs p1
 have w1:(srt xs).Pairwise fun x y=>(!(ltOf cfSc) y x)=true:=List.pairwise_mergeSort
  (fun a b c h1 h2=>by rw [Bool.not_eq_true',ltSc'] at *; omega) (fun a b=>by
   cases h1:(ltOf cfSc) b a
   ·rfl
   ·cases h2:(ltOf cfSc) a b
    ·rfl
    ·rw [ltSc] at h1 h2; omega) _
 have w2:(srt xs).Pairwise fun x y=>ofQ x≠ofQ y:=List.pairwise_map.1 nd
 refine (w1.and w2).imp fun {x y} h=>?_
 have h1:=h.1
 rw [Bool.not_eq_true'] at h1
 cases hxy:(ltOf cfSc) x y
 ·exact absurd (congrArg ofQ (totSc x y hxy h1)) h.2
 ·rw [ltSc] at hxy
  exact (scLt_iff _ _).2 hxy
theorem row_holds {h:List ABlk} {g:Gh} {w:World} {v:Value} {xs:List ScI} (o:RowOk h g w v 60 nmSh xs) (hin:∀ q∈xs,-1≤q.1∧q.1≤1∧0≤q.2.1∧q.2.1≤16) :
  (xs=[]∧∃ p c,v=.slice p 0 c∧c≤maxLen∧(p=none→c=0)) ∨
  (∃ b c,v=.slice (some ⟨b,0,none⟩) xs.length c∧0 < xs.length∧xs.length≤c∧c≤maxLen∧b < w.heap.size∧HoldsK encSc 2 w b 0 (xs.map toQ).toArray):=by
 obtain ⟨vs,⟨hl,ho⟩,hr⟩:=(rowOk_iff (e:=nmSh) (by decide)).1 o
 rcases ho with ⟨rfl,hn⟩ | ⟨b,c,cur,rfl,_,hb,h1,h2,h3,h4⟩
 ·exact .inl ⟨List.length_eq_zero_iff.1 hn,none,0,rfl,Nat.zero_le _,fun _=>rfl⟩
 ·by_cases h0:xs.length=0
  ·exact .inl ⟨List.length_eq_zero_iff.1 h0,some ⟨b,0,none⟩,c,congrArg (fun n=>Value.slice (some ⟨b,0,none⟩) n c) h0,h2,fun h=>by cases h⟩
  ·refine .inr ⟨b,c,rfl,by omega,h1,h2,(Array.getElem?_eq_some_iff.1 hb).1,fun t ht=>?_⟩
   rw [size_flatK,List.size_toArray,List.length_map] at ht
   have hq:t / 2 < xs.length:=by omega
   rw [get_flatK _ _ _ _ (by rw [List.size_toArray,List.length_map]; exact ht)]
   have hx:xs[t / 2]?=some xs[t / 2]:=List.getElem?_eq_getElem hq
   have hd:(xs.map toQ).toArray[t / 2]! = toQ xs[t / 2]:=by
    rw [getElem!_pos _ _ (by rw [List.size_toArray,List.length_map]; exact hq)]
    simp
   rw [hd]
   have hv:=hin _ (List.getElem_mem hq)
   generalize xs[t / 2]=q at hx hv
   have hsz:nmSh.size=2:=rfl
   have h4':List.take ((xs:List ScI).length * 2) cur.toList=vs:=h4
   have hcur:∀ j u,j < 2→vs[t / 2 * nmSh.size + j]?=some u→t / 2 * 2 + j < (xs:List ScI).length * 2→cur[t / 2 * 2 + j]?=some u:=fun j u hj hu hlt=>by
    rw [hsz,← h4'] at hu
    rw [List.getElem?_take,if_pos hlt,Array.getElem?_toList] at hu
    exact hu
   have e2:(toQ q).1=(q.1,q.2.1):=by
    unfold toQ
    rw [dif_pos (by omega)]
   have cell:∀ u,cur[t]?=some u→w.cell? ⟨b,0 + t,none⟩=some u∧w.frozen? ⟨b,0 + t,none⟩=false:=fun u hu=>by
    rw [Nat.zero_add]
    exact ⟨by simp [World.cell?,hb,hu],by simp [World.frozen?,hb]⟩
   have cs:nmSh.cells q=[.int .i64 q.1,.int .i64 q.2.1]:=rfl
   rcases Nat.mod_two_eq_zero_or_one t with e | e
   ·rw [e]
    obtain ⟨u,q1,q2⟩:=hr (t / 2) q 0 (.int .i64 q.1) hx (by rw [cs]; rfl)
    have:=cell u (by have:=hcur 0 u (by omega) q1 (by omega); rwa [show t / 2 * 2 + 0=t by omega] at this)
    cases q2
    refine ⟨this.1.trans ?_,this.2⟩
    show _=some ((encSc (toQ q))[0]!)
    unfold encSc; rw [e2]; rfl
   ·rw [e]
    obtain ⟨u,q1,q2⟩:=hr (t / 2) q 1 (.int .i64 q.2.1) hx (by rw [cs]; rfl)
    have:=cell u (by have:=hcur 1 u (by omega) q1 (by omega); rwa [show t / 2 * 2 + 1=t by omega] at this)
    cases q2
    refine ⟨this.1.trans ?_,this.2⟩
    show _=some ((encSc (toQ q))[1]!)
    unfold encSc; rw [e2]; rfl
theorem row_sorted {g:Gh} {w:World} {h:List ABlk} {b c m:Nat} {xs l:List ScI} {os:Array Obj} (hH:HoldsK encSc 2 w b 0 (xs.map toQ).toArray) (hb:b < w.heap.size) (h0:0 < xs.length) (hc:xs.length≤c) (hc2:c≤maxLen) (he:(srt xs).map ofQ=l) (hM:g.M b) :
  Rep h g (sortWorldK encSc 2 w b 0 m (srt xs).toArray os) (.ro nmSh l) (.slice (some ⟨b,0,none⟩) xs.length c):=by
 have hl:l.length=xs.length:=by rw [← he,List.length_map,srt_len]
 rw [← hl]
 have hc':l.length≤c:=by omega
 have hp:0 < l.length:=by omega
 refine .ro1 nmSh l b 0 c (fun i j=>(encSc (srt xs).toArray[i]!)[j]!) hp hc' hc2 hM (fun n x j cc hx hcc=>?_) fun n x j cc hx hcc=>?_
 ·have hn:n < (l:List ScI).length:=(List.getElem?_eq_some_iff.1 hx).1
  have hj:j < 2:=(List.getElem?_eq_some_iff.1 hcc).1
  have:=sortW_cell w b m (xs.map toQ).toArray (srt xs).toArray os hb hH (by rw [List.size_toArray,List.size_toArray,srt_len,List.length_map]) (i:=n) (j:=j) (by rw [List.size_toArray,srt_len]; omega) hj
  have e:0 + n * nmSh.size + j=n * 2 + j:=by rw [Nat.zero_add]; rfl
  rw [e]
  exact this
 ·have hn0:n < (l:List ScI).length:=(List.getElem?_eq_some_iff.1 hx).1
  have hn:n < (srt xs).length:=by rw [srt_len]; omega
  have hx2:ofQ (srt xs)[n]=x:=by
   have hx':(l:List ScI)[n]?=some x:=hx
   rw [← he,List.getElem?_map,List.getElem?_eq_getElem hn] at hx'
   exact Option.some.inj hx'
  have hd:(srt xs).toArray[n]! = (srt xs)[n]:=by
   rw [getElem!_pos _ _ (by rw [List.size_toArray]; exact hn)]
   simp
  show Rep h g _ cc ((encSc (srt xs).toArray[n]!)[j]!)
  rw [hd]
  generalize (srt xs)[n]=q at hx2
  subst hx2
  have cs:nmSh.cells (ofQ q)=[.int .i64 q.1.1,.int .i64 q.1.2]:=rfl
  rw [cs] at hcc
  match j with
  | 0=>simp at hcc; subst hcc; exact .int _ _
  | 1=>simp at hcc; subst hcc; exact .int _ _
  | j + 2=>simp at hcc
theorem born_inj:∀ {l:List MapEntry},(l.map (·.born)).Nodup→∀ x∈l,∀ y∈l,x.born=y.born→x=y
 | [],_,x,hx,_,_,_=>absurd hx List.not_mem_nil
 | e :: l,h,x,hx,y,hy,he=>by
   rw [List.map_cons,List.nodup_cons] at h
   rcases List.mem_cons.1 hx with rfl | hx'
   ·rcases List.mem_cons.1 hy with rfl | hy'
    ·rfl
    ·exact absurd (List.mem_map.2 ⟨y,hy',he.symm⟩) h.1
   ·rcases List.mem_cons.1 hy with rfl | hy'
    ·exact absurd (List.mem_map.2 ⟨x,hx',he⟩) h.1
    ·exact born_inj h.2 x hx' y hy' he
theorem born_nodup {l:List MapEntry} (h:(l.map (·.born)).Nodup):l.Nodup:=(List.pairwise_map.1 h).imp fun {_ _} hne e=>hne (congrArg _ e)
theorem taken_all {es:Array MapEntry} {ts:List MapEntry} (hnd:(es.toList.map (·.born)).Nodup) (hts:∀ e∈ts,e∈es.toList) (htn:(ts.map (·.born)).Nodup) (hz:(leftOf es (ts.map (·.born)).toArray).size=0):ts.Perm es.toList:=by
 have inj:=born_inj hnd
 refine (List.perm_ext_iff_of_nodup (born_nodup htn) (born_nodup hnd)).2 fun e=>⟨hts e,fun he=>?_⟩
 have hs:(ts.map (·.born)).toArray.contains e.born=true:=by
  cases hc:(ts.map (·.born)).toArray.contains e.born
  ·have:e∈leftOf es (ts.map (·.born)).toArray:=by
    unfold leftOf
    rw [Array.mem_filter]
    exact ⟨by rw [← Array.mem_toList_iff]; exact he,by rw [hc]; rfl⟩
   rw [Array.eq_empty_of_size_eq_zero hz] at this
   exact absurd this (by simp)
  ·rfl
 have hm:e.born∈ts.map (·.born):=by simpa using hs
 obtain ⟨q,hq,hqe⟩:=List.mem_map.1 hm
 exact inj q (hts q hq) e he hqe ▸ hq
theorem own_val {h:List ABlk} {g:Gh} {w:World} {i:Nat} {v:Value} (r:Rep h g w (.own i) v) {wr:Bool} {t:TypeId} {e:Sh} {xs:List e.ty} (hi:h[i]?=some (.row wr t e xs)):v=g.ρ i∧v.oneCell'=true:=by
 cases r with | own _ _ _ hc hv=>exact ⟨hv _ _ _ _ hi,hc⟩
theorem trep_one {h:List ABlk} {g:Gh} {w:World} {tmps:Array Value} (hs:tmps.size=35) {d:Nat} (hd:d < 35) {v:AVal} (r:Rep h g w v (tmps.getD d Go.undef)):TRep h g w (aN [(d,v)]) tmps:=by
 have e:aN [(d,v)]=(List.replicate 35 AVal.any).set d v:=rfl
 rw [e]
 refine ⟨by rw [List.length_set,List.length_replicate,hs],fun j c x hc hx=>?_⟩
 rw [List.getElem?_set] at hc
 by_cases h9:d=j
 ·subst h9
  rw [if_pos rfl,if_pos (by rw [List.length_replicate]; exact hd)] at hc
  cases hc
  have:tmps.getD d Go.undef=x:=by rw [Array.getD_eq_getD_getElem?,hx]; rfl
  rw [← this]; exact r
 ·rw [if_neg h9,List.getElem?_replicate] at hc
  split at hc
  ·cases hc; exact .any x
  ·cases hc
theorem trep_two {h:List ABlk} {g:Gh} {w:World} {tmps:Array Value} (hs:tmps.size=35) {d f:Nat} (hd:d < 35) (hf:f < 35) (hn:d≠f) {v u:AVal} (r:Rep h g w v (tmps.getD d Go.undef)) (q:Rep h g w u (tmps.getD f Go.undef)):TRep h g w (aN [(d,v),(f,u)]) tmps:=by
 have e:aN [(d,v),(f,u)]=((List.replicate 35 AVal.any).set d v).set f u:=rfl
 rw [e]
 have t1:=trep_one hs hd r
 have e1:aN [(d,v)]=(List.replicate 35 AVal.any).set d v:=rfl
 rw [e1] at t1
 refine ⟨by rw [List.length_set]; exact t1.1,fun j c x hc hx=>?_⟩
 rw [List.getElem?_set] at hc
 by_cases h9:f=j
 ·subst h9
  rw [if_pos rfl,if_pos (by rw [t1.1,hs]; exact hf)] at hc
  cases hc
  have:tmps.getD f Go.undef=x:=by rw [Array.getD_eq_getD_getElem?,hx]; rfl
  rw [← this]; exact q
 ·rw [if_neg h9] at hc
  exact t1.2 j c x hc hx
theorem heap_alloc_same (w:World) (o:Obj):∀ n,n < w.heap.size→n≠w.heap.size→(w.alloc o).heap[n]?=w.heap[n]?:=fun n hn _=>heap_alloc_old w o hn
theorem enter_sort:∀ args w,(callFunc 98 args).run Tryz.prog w=.ok (.enter 98 args) w:=enters_of Tryz.func98 (by kernel_rfl) rfl
theorem run_sort (A:Act) (v:Value) (hv:A.eval (.tmp 32)=v) (w:World):(execOp A.eval (opAt sO9 1)).run Tryz.prog w=.ok (.enter 98 #[v,.func (.func 99) #[] #[]]) w:=by
 have hf:∀ f,A.eval (.func f)=.func (.func f) #[] #[]:=fun _=>rfl
 simp [execOp,sO9_1.2.2.2,resolve,hf,hv,Deferred.ofValue,invoke,enter_sort]
theorem sc_behind {K0:Nat→Prop} {g0:Gh} {w0:World} {r0 bm:Nat} {es:Array MapEntry} {clock:Nat} {ts:List MapEntry} {l:List ScI} {a:Act} {w:World} {Q:Exit→Act→World→Prop} (hI:LpI K0 g0 w0 r0 bm es clock ts a w)
  (hp:(ts.map scDec).Perm l) (hs:l.Pairwise fun p q=>scLt p q=true) (hin:∀ q∈l,-1≤q.1∧q.1≤1∧0≤q.2.1∧q.2.1≤16) (hlen:l.length≤1000)
  (fin:∀ a' w' K' g',Mid K0 g0 w0 [.dead] (aN [(9,.ro nmSh l),(34,.ro nmSh l),(4,.ro nmSh l),(5,.int .i64 0)]) a' w' K' g'→Q .ret a' w'):WpR Tryz.prog (Code.seq (.region 9 sO9 false) sEnd) Q a w:=by
 obtain ⟨K,g,m,_,_,_,_,_,_,_,_,_,_⟩:=hI
 have hsz:a.tmps.size=35:=m.tr.1.symm
 have ow:([s38 (ts.map scDec)]:List ABlk)[0]?=some (s38 (ts.map scDec)):=rfl
 have r9:Rep [s38 (ts.map scDec)] g w (.own 0) (a.tmps.getD 9 Go.undef):=m.tr.get 9
 obtain ⟨v9,c9⟩:=own_val r9 ow
 have hin':∀ q∈ts.map scDec,-1≤q.1∧q.1≤1∧0≤q.2.1∧q.2.1≤16:=fun q hq=>hin q (hp.mem_iff.1 hq)
 have hrow:=row_holds (m.st.blk 0 _ ow) hin'
 rw [← v9] at hrow
 have hll:(ts.map scDec).length=l.length:=hp.length_eq
 refine wpR_seq (wpR_region ?_)
 rw [sOs_size.2.2.2]
 show wpOpsIn (FW none) 0 Tryz.prog sO9 _ [0,1] a w
 refine wpOps_cons sO9_0.1 sO9_0.2.1 ?_
 refine wp_value (x:=a.tmps.getD 9 Go.undef) (w':=w) (by simp [execOp,sO9_0.2.2.2,Act.eval,Result.andThen]) ?_
 rw [sO9_0.2.2.1]
 refine wpOps_cons sO9_1.1 sO9_1.2.1 ?_
 have hv32:(a.put (some 32) (a.tmps.getD 9 Go.undef)).eval (.tmp 32)=a.tmps.getD 9 Go.undef:=put_getD_same a 32 _ (by omega)
 have hrun:=run_sort _ _ hv32 w
 have rest:∀ w' (x:Value),((∃ g',Mid K0 g0 w0 [.dead] (aN [(9,.ro nmSh l)]) ((a.put (some 32) (a.tmps.getD 9 Go.undef)).put (some 33) x) w' K g'))→WpR Tryz.prog sEnd Q ((a.put (some 32) (a.tmps.getD 9 Go.undef)).put (some 33) x) w':=fun w' x ⟨g',m'⟩=>
  mid_ret mixedT tabOk (tower_ok mixedT tabOk (twY_ok fsM4_ok spM0_ok) 0 0) (sc_end 0 0 l) m' fin
 refine ⟨fun _ _=>trivial,?_⟩
 rw [semAt_of hrun (fun d w' e=>by cases e) (fun d c w' _ e=>by cases e),Oper.uponIn_enter]
 have keep9:∀ x,((a.put (some 32) (a.tmps.getD 9 Go.undef)).put (some 33) x).tmps.getD 9 Go.undef=a.tmps.getD 9 Go.undef:=fun x=>by rw [put_getD _ _ _ (by decide),put_getD _ _ _ (by decide)]
 have size9:∀ x,((a.put (some 32) (a.tmps.getD 9 Go.undef)).put (some 33) x).tmps.size=35:=fun x=>by rw [put_size,put_size]; exact hsz
 have mput:∀ x,Mid K0 g0 w0 [s38 (ts.map scDec)] (aN [(9,.own 0)]) ((a.put (some 32) (a.tmps.getD 9 Go.undef)).put (some 33) x) w K g:=fun x=>(m.put (some 32) (.any _)).put (some 33) (.any _)
 generalize a.tmps.getD 9 Go.undef=v at *
 rcases hrow with ⟨h0,p,c,rfl,hc1,hc2⟩ | ⟨b,c,rfl,h0,hc1,hc2,hb,hH⟩
 ·-- no score at all
  refine ⟨fun h=>by simp [FW] at h,(callsIn_of (sortNone p c w)).mono fun e w' he=>?_⟩
  obtain ⟨rfl,rfl⟩:=he
  have hl0:l=[]:=by
   have:=hp; rw [h0] at this; exact this.nil_eq.symm
  subst hl0
  refine rest w' _ ⟨g,?_⟩
  have mm:=mput (.tuple #[])
  have ad:∀ i,alive [.dead] i→False:=fun i ⟨q,hq,hn⟩=>by
   cases i with
   | zero=>simp at hq; exact hn hq.symm
   | succ i=>simp at hq
  have l:=mm.le
  exact ⟨mm.kk,⟨fun j q hq=>by
   cases j with
   | zero=>simp at hq; subst hq; trivial
   | succ j=>simp at hq,fun j _ _ hj=>(ad j hj).elim,fun j _ hj=>(ad j hj).elim,mm.st.low,mm.st.klow⟩,⟨Nat.zero_le _,fun j hj=>absurd hj.lt (Nat.not_lt_zero j),l.m,l.new,l.mw,l.k,fun j _ _ hj=>absurd hj.lt (Nat.not_lt_zero j),fun j _ _ _ _ hj=>absurd hj.lt (Nat.not_lt_zero j),fun j _ _ _ _ _ _ hj=>absurd hj.lt (Nat.not_lt_zero j),fun j _ hj=>by simp at hj,fun j _ _ _ hj=>by simp at hj,l.os,l.tape,l.output,l.size⟩,
   trep_one (size9 _) (by decide) (by rw [keep9]; exact .ro0 nmSh p c hc1 hc2),mm.df⟩
 ·-- the row is sorted
  have hcall:=sortRow b c ((ts.map scDec).map toQ).toArray w hH hb (by rw [List.size_toArray,List.length_map,hll]; omega)
  rw [List.size_toArray,List.length_map] at hcall
  refine ⟨fun h=>by simp [FW] at h,(callsIn_of hcall).mono fun e w' he=>?_⟩
  obtain ⟨rfl,n,os,hw⟩:=he
  have hsrt:srt (ts.map scDec)=((ts.map scDec).map toQ).toArray.toList.mergeSort fun x y=>!(ltOf cfSc) y x:=rfl
  rw [← hsrt] at hw
  refine rest w' _ ?_
  have mm:=mput (.tuple #[])
  have hbk:blockOf (g.ρ 0)=some b:=by rw [← v9]; rfl
  have al0:alive [s38 (ts.map scDec)] 0:=⟨_,ow,by simp⟩
  obtain ⟨s1,s2,s3⟩:=mm.st.sep 0 b al0 hbk
  have hbel:=sortW_below w b n (srt (ts.map scDec)).toArray os
  rw [← hw] at hbel
  have hblk:∀ k,k < w.heap.size→k≠b→w'.heap[k]?=w.heap[k]?:=fun k hk hne=>by rw [hw]; exact sortW_block w b n _ os hne hk
  -- the row becomes memory that stays,then it turns
  have l0:=mm.le
  have ad:∀ i,alive [.dead] i→False:=fun i ⟨q,hq,hn⟩=>by
   cases i with
   | zero=>simp at hq; exact hn hq.symm
   | succ i=>simp at hq
  have hk0:∀ k,K k→k≠b:=fun k hk e=>s1 (e ▸ hk)
  have hm0:∀ k,g.M k→k≠b:=fun k hk e=>s2 (e ▸ hk)
  refine ⟨⟨g.ρ,fun k=>g.M k∨k=b⟩,mm.kk,⟨fun j q hq=>by
   cases j with
   | zero=>simp at hq; subst hq; trivial
   | succ j=>simp at hq,fun j _ _ hj=>(ad j hj).elim,fun j _ hj=>(ad j hj).elim,fun k hk=>Nat.lt_of_lt_of_le (hk.elim (mm.st.low k) fun e=>e ▸ s3) hbel.2.2.2,fun k hk=>Nat.lt_of_lt_of_le (mm.st.klow k hk) hbel.2.2.2⟩,⟨Nat.zero_le _,fun j hj=>absurd hj.lt (Nat.not_lt_zero j),fun k hk=>.inl (l0.m k hk),fun k hk=>hk.elim (l0.new k) fun e=>.inr fun hk=>s1 (e ▸ mm.kk k hk),fun k hk=>(hblk k (mm.st.low k (l0.m k hk)) (hm0 k (l0.m k hk))).trans (l0.mw k hk),fun k hk=>(hblk k (mm.st.klow k (mm.kk k hk)) (hk0 k (mm.kk k hk))).trans (l0.k k hk),fun j _ _ hj=>absurd hj.lt (Nat.not_lt_zero j),fun j _ _ _ _ hj=>absurd hj.lt (Nat.not_lt_zero j),fun j _ _ _ _ _ _ hj=>absurd hj.lt (Nat.not_lt_zero j),fun j _ hj=>by simp at hj,fun j _ _ _ hj=>by simp at hj,hbel.1.trans l0.os,hbel.2.1.trans l0.tape,hbel.2.2.1.trans l0.output,Nat.le_trans l0.size hbel.2.2.2⟩,
   trep_one (size9 _) (by decide) ?_,?_⟩
  ·rw [keep9,hw]
   exact row_sorted hH hb h0 hc1 hc2 (srt_eq hp hs hin) (.inr rfl)
  ·obtain ⟨rs,n1,n2,n3⟩:=mm.df
   refine ⟨rs,n1,n2,fun r hr=>?_⟩
   obtain ⟨q1,q2,q3,q4⟩:=n3 r hr
   exact ⟨q1,q2,fun h=>h.elim q3 (hk0 r q1),(hblk r (mm.st.klow r q1) (hk0 r q1)).trans q4⟩
end Go.Proofs.YtenolfpkkgcgcaaGreat
namespace Go.Proofs.YtenolfpkkgcgcaaGreat
open Go.RowKit
theorem alloc_sizeN (w:World) (o:Obj):(w.alloc o).heap.size=w.heap.size + 1:=Array.size_push _
theorem map_keys {h:List ABlk} {g:Gh} {w:World} {v:Value} {t:TypeId} {m:ScM} (o:RowOk h g w v t (.mp nmSh .bool) m):∃ (bm:Nat) (es:Array MapEntry) (clock:Nat),v=.map (some bm)∧w.heap[bm]?=some (.map es clock)∧es.toList.map scDec=scKeys m ∧
  (∀ x∈es.toList,x.born < clock)∧(es.toList.map (·.born)).Nodup∧∀ e∈es.toList,e.key=.agg #[.int .i64 (scDec e).1,.int .i64 (scDec e).2.1]:=by
 obtain ⟨bm,es,clock,e1,hb,hsz,⟨hold,hnd⟩,hkv⟩:=o
 have hsz':es.size=(m:ScM).length:=hsz
 have at_:∀ n (q:ScI × Bool) en,(m:ScM)[n]?=some q→es[n]?=some en→scDec en=q.1∧en.key=.agg #[.int .i64 q.1.1,.int .i64 q.1.2.1]:=fun n q en hq hen=>scDec_rep (hkv n q en hq hen).1
 refine ⟨bm,es,clock,e1,hb,List.ext_getElem? fun n=>?_,hold,hnd,fun e he=>?_⟩
 ·unfold scKeys
  rw [List.getElem?_map,List.getElem?_map,Array.getElem?_toList]
  by_cases hn:n < es.size
  ·have h1:es[n]?=some es[n]:=Array.getElem?_eq_getElem hn
   have h2:(m:ScM)[n]?=some ((m:ScM)[n]'(by omega)):=List.getElem?_eq_getElem (by omega)
   rw [h1,h2,Option.map_some,Option.map_some,(at_ n _ _ h2 h1).1]
  ·rw [Array.getElem?_eq_none (by omega),List.getElem?_eq_none (by omega)]; rfl
 ·obtain ⟨n,hn,rfl⟩:=List.mem_iff_getElem.1 he
  rw [Array.length_toList] at hn
  rw [Array.getElem_toList]
  have h1:es[n]?=some es[n]:=Array.getElem?_eq_getElem hn
  have h2:(m:ScM)[n]?=some ((m:ScM)[n]'(by omega)):=List.getElem?_eq_getElem (by omega)
  have h3:=at_ n _ _ h2 h1
  rw [h3.2,h3.1]
theorem range_run (A:Act) (bm:Nat) (es:Array MapEntry) (clock:Nat) (w:World) (hv:A.eval (.tmp 22)=.map (some bm)) (hb:w.heap[bm]?=some (.map es clock)):(execOp A.eval (opAt sO5 2)).run Tryz.prog w=.ok (.value (.pointer (some ⟨w.heap.size,0,none⟩))) (w.alloc (.mapIter (some bm) clock #[] clock)):=by
 have hrun:=run_range_map (P:=Tryz.prog) w 187 _ _ bm es clock Tryz.underlying187 hb
 simp [execOp,sO5_2.2.2.2,hv,hrun,Result.andThen]
theorem sc_loop {K0:Nat→Prop} {g0:Gh} {w0:World} {x y:List RdI} (hx:rdGood x) (hy:rdGood y) {a:Act} {w:World} {K:Nat→Prop} {g:Gh} {Q:Exit→Act→World→Prop} (m:Mid K0 g0 w0 (scH1 (scM x y)) (aN [(9,.own 0),(21,.agg [.ro RdSh x,.ro RdSh y]),(22,.own 2)]) a w K g)
  (fin:∀ a' w' K' g',Mid K0 gNone w0 [.dead] (aN [(9,.ro nmSh (scL x y)),(34,.ro nmSh (scL x y)),(4,.ro nmSh (scL x y)),(5,.int .i64 0)]) a' w' K' g'→Q .ret a' w') :
  (opAt sO5 2).wpIn (FW none) 0 Tryz.prog a w (wpOpsIn (FW none) 0 Tryz.prog sO5 (Exit.then (WpR Tryz.prog (Code.block 0 (.loop sLp)) (Exit.then (WpR Tryz.prog (Code.seq (.region 9 sO9 false) sEnd) Q) Q)) (Exit.then (WpR Tryz.prog (Code.seq (.region 9 sO9 false) sEnd) Q) Q)) []) (Exit.then (WpR Tryz.prog (Code.block 0 (.loop sLp)) (Exit.then (WpR Tryz.prog (Code.seq (.region 9 sO9 false) sEnd) Q) Q)) (Exit.then (WpR Tryz.prog (Code.seq (.region 9 sO9 false) sEnd) Q) Q)):=by
 have hsz:a.tmps.size=35:=m.tr.1.symm
 have o2:(scH1 (scM x y))[2]?=some (.row true 187 (.mp nmSh .bool) (scM x y)):=rfl
 have o0:(scH1 (scM x y))[0]?=some (s38 []):=rfl
 have r22:Rep (scH1 (scM x y)) g w (.own 2) (a.tmps.getD 22 Go.undef):=m.tr.get 22
 have r9:Rep (scH1 (scM x y)) g w (.own 0) (a.tmps.getD 9 Go.undef):=m.tr.get 9
 obtain ⟨v22,_⟩:=own_val r22 o2
 obtain ⟨v9,c9⟩:=own_val r9 o0
 obtain ⟨bm,es,clock,e1,hb,hks,hold,hnd,hkey⟩:=map_keys (t:=187) (m.st.blk 2 _ o2)
 have hbl:blockOf (g.ρ 2)=some bm:=by rw [e1]; rfl
 obtain ⟨b1,b2,b3⟩:=m.st.sep 2 bm ⟨_,o2,by simp⟩ hbl
 have hv:a.eval (.tmp 22)=.map (some bm):=v22.trans e1
 refine wp_value (range_run a bm es clock w hv hb) ?_
 rw [sO5_2.2.2.1]
 have m1:Mid K0 g0 w0 (scH1 (scM x y)) (aN [(9,.own 0),(21,.agg [.ro RdSh x,.ro RdSh y]),(22,.own 2)]) a (w.alloc (.mapIter (some bm) clock #[] clock)) K g:=
  m.turn (r:=w.heap.size) rfl rfl rfl (by rw [alloc_sizeN]; exact Nat.le_succ _) (heap_alloc_same w _) (fun h=>Nat.lt_irrefl _ (m.st.klow _ h)) (fun h=>Nat.lt_irrefl _ (m.st.low _ h)) fun i hi h=>Nat.lt_irrefl _ (m.st.sep i _ hi h).2.2
 have m2:=m1.put (some 23) (.any (.pointer (some ⟨w.heap.size,0,none⟩)))
 have n0:blockOf (g.ρ 0)≠some bm:=fun h=>absurd (m.st.inj 0 2 bm ⟨_,o0,by simp⟩ ⟨_,o2,by simp⟩ h hbl) (by decide)
 have k9:(a.put (some 23) (.pointer (some ⟨w.heap.size,0,none⟩))).tmps.getD 9 Go.undef=a.tmps.getD 9 Go.undef:=put_getD _ _ _ (by decide)
 have m3:=m2.oneN (i:=0) (e:=nmSh) (by decide) nm_flat o0 (tm':=aN [(9,.own 0)]) (trep_one (by rw [put_size]; exact hsz) (by decide) (by
  rw [k9]; exact .own 0 _ (Here.of (b:=s38 []) rfl (by simp)) c9 fun _ _ _ _ _=>v9))
 have m4:=m3.lock (r:=bm) (by rw [alloc_sizeN]; omega) (only0 (g:=⟨fun _=>g.ρ 0,fun _=>False⟩) n0)
 show WpR Tryz.prog (Code.block 0 (.loop sLp)) _ (a.put (some 23) (.pointer (some ⟨w.heap.size,0,none⟩))) (w.alloc (.mapIter (some bm) clock #[] clock))
 have hal:(w.alloc (.mapIter (some bm) clock #[] clock)).heap[w.heap.size]?=some (.mapIter (some bm) clock #[] clock):=heap_alloc_new w _
 have hes:es.size≤1000:=by
  have h1:=(scM_perm x y hx.1 hy.1).length_eq
  have h2:=scL_len x y
  rw [← hks,List.length_map,Array.length_toList] at h1
  omega
 refine wpR_block (wpR_loop (I:=fun a w'=>∃ ts,LpI K0 gNone w0 w.heap.size bm es clock ts a w') (μ:=fun _ w'=>lpMu w.heap.size es w') ⟨[],_,_,m4,?_,?_,?_,?_,.inr rfl,?_,?_,?_,fun _ h=>absurd h List.not_mem_nil,List.nodup_nil⟩ fun a' w' ⟨ts,hI⟩=>lp_round hold hnd hes hkey (fun ts a w' hI hz=>?_) hI)
 ·exact put_getD_same a 23 _ (by omega)
 ·exact fun h=>h.elim (fun h=>Nat.lt_irrefl _ (m.st.klow _ h)) fun h=>Nat.lt_irrefl _ (h ▸ b3)
 ·exact fun h=>h
 ·exact fun h=>Nat.lt_irrefl _ (m.st.sep 0 _ ⟨_,o0,by simp⟩ h).2.2
 ·rw [alloc_sizeN]; exact Nat.lt_succ_self _
 ·exact hal
 ·exact (heap_alloc_old w _ b3).trans hb
 ·have hts:(∀ e∈ts,e∈es.toList)∧(ts.map (·.born)).Nodup:=by
   obtain ⟨_,_,_,_,_,_,_,_,_,_,_,q1,q2⟩:=hI
   exact ⟨q1,q2⟩
  have hp:(ts.map scDec).Perm (scL x y):=by
   refine ((taken_all hnd hts.1 hts.2 hz).map scDec).trans ?_
   rw [hks]
   exact scM_perm x y hx.1 hy.1
  exact sc_behind hI hp (scL_sorted x y) (fun q hq=>scL_in hq) (by have:=scL_len x y; omega) fin
def scR (l:List SnI) (r:List RdI):List ScI:=bif bdsE l r==0 then scL (tmL l (bndM l.length r) 0) (tmL l (bndM l.length r) 1) else []
noncomputable def mscS:Fsp:=fun _ args k=>match args with
 | [.ro (.recd (.cons (.int .i64) (.cons (.int .i64) (.cons (.recd (.cons (.int .i64) (.cons (.int .i64) .nil))) .nil)))) l,.ro (.recd (.cons (.int .i64) (.cons (.int .i64) (.cons (.int .i64) .nil)))) r]=>k (.ret (.tup [.ro nmSh (scR l r),.int .i64 (bdsE l r)]))
 | _=>none
noncomputable def msdX (e:Int):Fsp:=fun _ args k=>match args with
 | [.ro (.recd (.cons (.int .i64) (.cons (.int .i64) (.cons (.recd (.cons (.int .i64) (.cons (.int .i64) .nil))) .nil)))) l,.ro (.recd (.cons (.int .i64) (.cons (.int .i64) (.cons (.int .i64) .nil)))) r]=>bif bdsE l r==e&&!(bdsE l r==0) then k (.ret (.tup [.nils,.agg [.ro RdSh [],.ro RdSh []],.int .i64 e])) else none
 | _=>none
theorem msdX_ok (e:Int):FspOk Tryz.prog 96 (msdX e) where
 enter:=msdS_ok.enter
 nat:=by intro α args k; unfold msdX; split<;>simp only [cond_bind,Option.bind_some,Option.bind_none]
 calls:=fun args out hout=>msdS_ok.calls args out (by
  unfold msdX at hout
  unfold msdS
  split at hout
  ·rename_i l r
   cases h:bdsE l r==e&&!(bdsE l r==0)
   ·rw [h] at hout; cases hout
   ·rw [h] at hout
    rw [Bool.and_eq_true,Bool.not_eq_true',beq_iff_eq] at h
    simp only [h.2,cond_false,cond_true] at hout ⊢
    rw [h.1]; exact hout
  ·cases hout)
noncomputable def fsM4x (e:Int):FuncId→Option Fsp:=fun g=>if g=96 then some (msdX e) else fsM4 g
theorem fsM4x_ok (e:Int):FsOk (fsM4x e):=fs_cons (msdX_ok e) fsM4_ok
set_option maxRecDepth 100000 in
theorem mse_text2 (N n0:Nat) (α:Type) (l:List SnI) (r:List RdI) (k:AOut→Option α):evFn real tab ((twY (fsM4x 2) spM0).env real tab N (n0 + 15)) N Tryz.f46 α [.ro SnSh l,.ro RdSh r] k =
 bif bdsE l r==2&&!(bdsE l r==0) then k (.ret (.tup [.ro nmSh [],.int .i64 2])) else none:=by kernel_rfl
set_option maxRecDepth 100000 in
theorem mse_text3 (N n0:Nat) (α:Type) (l:List SnI) (r:List RdI) (k:AOut→Option α):evFn real tab ((twY (fsM4x 3) spM0).env real tab N (n0 + 15)) N Tryz.f46 α [.ro SnSh l,.ro RdSh r] k =
 bif bdsE l r==3&&!(bdsE l r==0) then k (.ret (.tup [.ro nmSh [],.int .i64 3])) else none:=by kernel_rfl
set_option maxRecDepth 100000 in
theorem mse_text7 (N n0:Nat) (α:Type) (l:List SnI) (r:List RdI) (k:AOut→Option α):evFn real tab ((twY (fsM4x 7) spM0).env real tab N (n0 + 15)) N Tryz.f46 α [.ro SnSh l,.ro RdSh r] k =
 bif bdsE l r==7&&!(bdsE l r==0) then k (.ret (.tup [.ro nmSh [],.int .i64 7])) else none:=by kernel_rfl
theorem bdsE_one (l:List SnI) (r:List RdI):bdsE l r=0∨bdsE l r=2∨bdsE l r=3∨bdsE l r=7:=by
 unfold bdsE bndE
 cases decide (r.length≤256)
 ·exact .inr (.inr (.inl rfl))
 cases snsB l
 ·exact .inr (.inl rfl)
 cases nB (l.length:Int)&&rdsB (l.length:Int) r
 ·exact .inr (.inl rfl)
 cases bndC (l.length:Int).toNat r
 ·exact .inl rfl
 ·exact .inr (.inr (.inr rfl))
theorem sc_body:Tryz.f46.body=some scC:=by kernel_rfl
theorem sc_shape:Tryz.f46.ntmps=35∧Tryz.f46.results.toList=[.tmp 4,.tmp 5]:=⟨by kernel_rfl,by kernel_rfl⟩
theorem sc_calls {l:List SnI} {r:List RdI} (h:bdsE l r=0) {M:Nat→Prop} {w:World} {cargs:Array Value} (hM:∀ b,M b→b < w.heap.size) (hl:2=cargs.size) (hr:∀ (j:Nat) c z,([.ro SnSh l,.ro RdSh r]:List AVal)[j]?=some c→cargs[j]?=some z→Rep [] ⟨fun _=>Go.undef,M⟩ w c z) :
  Calls Tryz.prog 46 cargs w (CPost (fun _=>False) w (.ret (.tup [.ro nmSh (scL (tmL l (bndM l.length r) 0) (tmL l (bndM l.length r) 1)),.int .i64 0]))):=by
 have hb:(bdsE l r==0)=true:=by rw [h]; rfl
 have hx:=tm_good h 0
 have hy:=tm_good h 1
 have t1:ev real tab ((twY fsM4k spM0).env real tab 0 0) 0 sR1 ⟨[.ro SnSh l,.ro RdSh r,.undef,.undef,.own 0,.int .i64 0]++List.replicate 29 .undef,[s38 []]⟩ pairE=some (.normal,⟨sc2T l r (bndM l.length r) (tmL l (bndM l.length r) 0) (tmL l (bndM l.length r) 1),sc2H (tmL l (bndM l.length r) 0) (tmL l (bndM l.length r) 1)⟩):=by
  rw [sc_r1',hb]; rfl
 refine (body_midN (K:=fun b=>b < w.heap.size) (g2:=gNone) tabOk Tryz.func46 sc_body (args:=[.ro SnSh l,.ro RdSh r]) (h1:=[.dead])
  (tm1:=aN [(9,.ro nmSh (scL (tmL l (bndM l.length r) 0) (tmL l (bndM l.length r) 1))),(34,.ro nmSh (scL (tmL l (bndM l.length r) 0) (tmL l (bndM l.length r) 1))),(4,.ro nmSh (scL (tmL l (bndM l.length r) 0) (tmL l (bndM l.length r) 1))),(5,.int .i64 0)])
  (vs:=[.ro nmSh (scL (tmL l (bndM l.length r) 0) (tmL l (bndM l.length r) 1)),.int .i64 0]) (by rw [sc_shape.2]; rfl) (st_start hM) hl hr fun a Q m fin=>?_).mono fun e w' hp=>post_of_cv (M:=fun _=>False) rfl hp
 rw [sc_shape.1] at m
 generalize tmL l (bndM l.length r) 0=x at *
 generalize tmL l (bndM l.length r) 1=y at *
 rw [scC_eq]
 refine mid_seq mixedT tabOk (tower_ok mixedT tabOk (twY_ok fsM4k_ok spM0_ok) 0 0) (sc_r0 0 0 l r) m fun a1 w1 K1 g1 _ m1=>?_
 refine mid_seq mixedT tabOk (tower_ok mixedT tabOk (twY_ok fsM4k_ok spM0_ok) 0 0) t1 m1 fun a2 w2 K2 g2 _ m2=>?_
 have m2':Mid _ _ _ (sc2H x y) (aN [(7,.op 3 0),(8,.int .i64 0)]) a2 w2 K2 g2:=m2.weak [7,8]
 refine mid_seq mixedT tabOk (tower_ok mixedT tabOk (twY_ok fsM4_ok spM0_ok) 0 0) (sc_c2 0 0 x y) m2' fun a3 w3 K3 g3 _ m3=>?_
 have m3':Mid _ _ _ (sc2H x y) (aN [(7,.op 3 0)]) a3 w3 K3 g3:=m3.weak [7]
 refine mid_seq mixedT tabOk (tower_ok mixedT tabOk (twY_ok fsM4_ok spM0_ok) 0 0) (sc_r4 0 0 x y) m3' fun a4 w4 K4 g4 _ m4=>?_
 refine wpR_seq (wpR_seq (wpR_region ?_))
 rw [sOs_size.1]
 show wpOpsIn (FW none) 0 Tryz.prog sO5 _ [0,1,2] a4 w4
 refine wpOps_cons sO5_0.1 sO5_0.2.1 ?_
 refine mid_op tabOk (tower_ok mixedT tabOk (twY_ok fsM4_ok spM0_ok) 0 0) (sc_o50 0 0 x y) m4 fun z5 w5 g5 _ m5=>?_
 rw [sO5_0.2.2] at m5 ⊢
 have m5':Mid _ _ _ (sc2H x y++[s38 []]) (aN [(9,.own 4),(21,.agg [.ro RdSh x,.ro RdSh y])]) (a4.put (some 21) z5) w5 K4 g5:=m5.weak [9,21]
 generalize a4.put (some 21) z5=a5 at m5'
 have o4:(sc2H x y++[s38 []])[4]?=some (s38 []):=rfl
 have r9:Rep (sc2H x y++[s38 []]) g5 w5 (.own 4) (a5.tmps.getD 9 Go.undef):=m5'.tr.get 9
 have r21:Rep (sc2H x y++[s38 []]) g5 w5 (.agg [.ro RdSh x,.ro RdSh y]) (a5.tmps.getD 21 Go.undef):=m5'.tr.get 21
 obtain ⟨v9,c9⟩:=own_val r9 o4
 have q21:Rep [s38 []] ⟨fun _=>g5.ρ 4,g5.M⟩ w5 (.agg [.ro RdSh x,.ro RdSh y]) (a5.tmps.getD 21 Go.undef):=by
  generalize a5.tmps.getD 21 Go.undef=v at r21
  cases r21 with
  | agg _ arr hl hr=>
    refine .agg _ arr hl fun j c z hc hz=>?_
    have:=hr j c z hc hz
    match j,hc with
    | 0,hc=>simp at hc; subst hc; exact rep_roM rd_flat this fun _ h=>h
    | 1,hc=>simp at hc; subst hc; exact rep_roM rd_flat this fun _ h=>h
    | j + 2,hc=>simp at hc
 have m6:=m5'.one (i:=4) (e:=nmSh) (by decide) nm_flat o4 (tm':=aN [(9,.own 0),(21,.agg [.ro RdSh x,.ro RdSh y])]) (trep_two m5'.tr.1.symm (by decide) (by decide) (by decide) (.own 0 _ (Here.of (b:=s38 []) rfl (by simp)) c9 fun _ _ _ _ _=>v9) q21)
 refine wpOps_cons sO5_1.1 sO5_1.2.1 ?_
 refine mid_op tabOk (tower_ok mixedT tabOk (twY_ok fsM4_ok spM0_ok) 20 14) (sc_o51 0 hx hy) m6 fun z7 w7 g7 _ m7=>?_
 rw [sO5_1.2.2] at m7 ⊢
 exact wpOps_cons sO5_2.1 sO5_2.2.1 (sc_loop hx hy m7 fin)
theorem err_new {M:Nat→Prop} {w:World} {e:Ending} {w':World} {n:Int} (h:CPost M w (.ret (.tup [.ro nmSh [],.int .i64 n])) e w'):CPost (fun _=>False) w (.ret (.tup [.ro nmSh [],.int .i64 n])) e w':=by
 obtain ⟨M',m1,m2,m3,hb,z,e1,e2⟩:=h
 refine ⟨fun _=>False,fun _ h=>h,fun _ h=>h.elim,fun _ h=>h.elim,hb,z,e1,?_⟩
 cases e2 with
 | tup _ arr hl hr=>
   refine .tup _ arr hl fun j c x hc hx=>?_
   have:=hr j c x hc hx
   match j,hc with
   | 0,hc=>
     simp at hc; subst hc
     cases this with
     | ro0 _ p c h1 h2=>exact .ro0 nmSh p c h1 h2
     | ro1 _ _ b o c us h0=>exact absurd h0 (Nat.lt_irrefl 0)
   | 1,hc=>
     simp at hc; subst hc
     cases this; exact .int _ _
   | j + 2,hc=>simp at hc
theorem mscS_new:FspNew Tryz.prog 46 mscS where
 enter:=enters_of Tryz.func46 (by kernel_rfl) sc_body
 nat:=by intro α args k; unfold mscS; split<;>rfl
 calls:=fun args out hout M w cargs hM hl hr=>by
  unfold mscS at hout
  split at hout
  ·rename_i l r
   cases hout
   by_cases h:bdsE l r=0
   ·have e:scR l r=scL (tmL l (bndM l.length r) 0) (tmL l (bndM l.length r) 1):=by unfold scR; rw [h]; rfl
    rw [e,h]
    exact sc_calls h hM hl hr
   ·have h1:(bdsE l r==0)=false:=by simpa using h
    have e:scR l r=[]:=by unfold scR; rw [h1]; rfl
    rw [e]
    have en:∀ args w,(callFunc 46 args).run Tryz.prog w=.ok (.enter 46 args) w:=enters_of Tryz.func46 (by kernel_rfl) sc_body
    rcases bdsE_one l r with h0 | h0 | h0 | h0
    ·exact absurd h0 h
    ·rw [h0]; exact ((fn_ok mixedT tabOk (tower_ok mixedT tabOk (twY_ok (fsM4x_ok 2) spM0_ok) 0 15) 0 Tryz.func46 en).calls _ _ ((mse_text2 0 0 _ l r some).trans (by rw [h0]; rfl)) M w cargs hM hl hr).mono fun _ _=>err_new
    ·rw [h0]; exact ((fn_ok mixedT tabOk (tower_ok mixedT tabOk (twY_ok (fsM4x_ok 3) spM0_ok) 0 15) 0 Tryz.func46 en).calls _ _ ((mse_text3 0 0 _ l r some).trans (by rw [h0]; rfl)) M w cargs hM hl hr).mono fun _ _=>err_new
    ·rw [h0]; exact ((fn_ok mixedT tabOk (tower_ok mixedT tabOk (twY_ok (fsM4x_ok 7) spM0_ok) 0 15) 0 Tryz.func46 en).calls _ _ ((mse_text7 0 0 _ l r some).trans (by rw [h0]; rfl)) M w cargs hM hl hr).mono fun _ _=>err_new
  ·cases hout
theorem mscS_ok:FspOk Tryz.prog 46 mscS:=mscS_new.ok
noncomputable def fsM5:FuncId→Option Fsp:=fun g=>if g=46 then some mscS else fsM4 g
theorem fsM5_ok:FsOk fsM5:=fs_cons mscS_ok fsM4_ok
def sdB (l:List SnI) (r:List RdI):List RdI:=bif bdsE l r==0 then bndM l.length r else []
def sdT (l:List SnI) (r:List RdI) (t:Int):List RdI:=bif bdsE l r==0 then tmL l (bndM l.length r) t else []
noncomputable def msdU:Fsp:=fun _ args k=>match args with
 | [.ro (.recd (.cons (.int .i64) (.cons (.int .i64) (.cons (.recd (.cons (.int .i64) (.cons (.int .i64) .nil))) .nil)))) l,.ro (.recd (.cons (.int .i64) (.cons (.int .i64) (.cons (.int .i64) .nil)))) r]=>k (.ret (.tup [.ro RdSh (sdB l r),.agg [.ro RdSh (sdT l r 0),.ro RdSh (sdT l r 1)],.int .i64 (bdsE l r)]))
 | _=>none
theorem msdU_ok:FspOk Tryz.prog 96 msdU where
 enter:=msdS_ok.enter
 nat:=by intro α args k; unfold msdU; split<;>rfl
 calls:=fun args out hout M w cargs hM hl hr=>by
  unfold msdU at hout
  split at hout
  ·rename_i l r
   cases hout
   cases h:bdsE l r==0
   ·have c:=msdS_ok.calls [.ro SnSh l,.ro RdSh r] (.ret (.tup [.nils,.agg [.ro RdSh [],.ro RdSh []],.int .i64 (bdsE l r)])) (by
     show (bif bdsE l r==0 then _ else _)=_
     rw [h]; rfl) M w cargs hM hl hr
    refine c.mono fun e w' hp=>?_
    obtain ⟨M',p1,p2,p3,p4,x,p5,p6⟩:=hp
    refine ⟨M',p1,p2,p3,p4,x,p5,?_⟩
    unfold sdB sdT
    rw [h]
    cases p6 with
    | tup _ arr hl hr=>
      refine .tup _ arr hl fun j c z hc hz=>?_
      match j,hc with
      | 0,hc=>
        simp at hc; subst hc
        have:=hr 0 .nils z rfl hz
        cases this
        exact .ro0 RdSh none 0 (Nat.zero_le _) fun _=>rfl
      | 1,hc=>exact hr 1 c z hc hz
      | 2,hc=>exact hr 2 c z hc hz
      | j + 3,hc=>simp at hc
   ·unfold sdB sdT
    rw [h]
    have h0:bdsE l r=0:=by simpa using h
    exact msdS_ok.calls [.ro SnSh l,.ro RdSh r] _ (by
     show (bif bdsE l r==0 then _ else _)=_
     rw [h,h0]; rfl) M w cargs hM hl hr
  ·cases hout
noncomputable def fsM6:FuncId→Option Fsp:=fun g=>
 if g=96 then some msdU else
 if g=39 then some scaleS else
 fsM5 g
theorem fsM6_ok:FsOk fsM6:=
 fs_cons msdU_ok <|
 fs_cons scaleS_ok <|
 fsM5_ok
/-! Points. -/
def mptB (l:List SnI) (r:List RdI):Bool:=(bdsE l r==0)&&decide ((scR l r).length=1)
def ptS (l:List SnI) (r:List RdI):ScI:=bif mptB l r then (scR l r).getD 0 (0,0,()) else (0,0,())
def ptO (l:List SnI) (r:List RdI):AOut:=.ret (.tup [.agg [.int .i64 (ptS l r).1,.int .i64 (ptS l r).2.1],.bool (mptB l r),.int .i64 (bdsE l r)])
theorem mpt_text (N n0:Nat) (α:Type) (l:List SnI) (r:List RdI) (k:AOut→Option α):evFn real tab ((twY fsM6 spM0).env real tab N (n0 + 12)) N Tryz.f14 α [.ro SnSh l,.ro RdSh r] k =
 bif bdsE l r != 0 then k (.ret (.tup [.agg [.int .i64 0,.int .i64 0],.bool false,.int .i64 (bdsE l r)])) else bif ((scR l r).length:Int) != 1 then k (.ret (.tup [.agg [.int
 .i64 0,.int .i64 0],.bool false,.int .i64 (bdsE l r)])) else if 0≤(0:Int)∧(0:Int) < ((scR l r).length:Int) then k (.ret (.tup [.agg [.int .i64 ((scR l r).getD
 (Int.toNat 0) (0,0,())).1,.int .i64 ((scR l r).getD (Int.toNat 0) (0,0,())).2.1],.bool true,.int .i64 0])) else none:=by kernel_rfl
theorem mpt_plain {α:Type} (l:List SnI) (r:List RdI) (k:AOut→Option α):(bif bdsE l r != 0 then k (.ret (.tup [.agg [.int .i64 0,.int .i64 0],.bool false,.int .i64 (bdsE l r)])) else
 bif ((scR l r).length:Int) != 1 then k (.ret (.tup [.agg [.int .i64 0,.int .i64 0],.bool false,.int .i64 (bdsE l r)])) else
 if 0≤(0:Int)∧(0:Int) < ((scR l r).length:Int) then k (.ret (.tup [.agg [.int .i64 ((scR l r).getD (Int.toNat 0) (0,0,())).1,.int .i64 ((scR l r).getD (Int.toNat 0) (0,0,())).2.1],.bool true,.int .i64 0])) else none)=k (ptO l r):=by
 unfold ptO ptS mptB
 by_cases h:bdsE l r=0
 ·have h1:(bdsE l r != 0)=false:=by simpa using h
  have h2:(bdsE l r==0)=true:=by simpa using h
  rw [h1,h2,cond_false]
  by_cases h3:(scR l r).length=1
  ·have h4:(((scR l r).length:Int) != 1)=false:=by rw [h3]; rfl
   rw [h4,cond_false,if_pos (by omega),decide_eq_true h3,h]
   rfl
  ·have h4:(((scR l r).length:Int) != 1)=true:=by
    rw [bne_iff_ne]; omega
   rw [h4,cond_true,decide_eq_false h3]
   rfl
 ·have h1:(bdsE l r != 0)=true:=by simpa using h
  have h2:(bdsE l r==0)=false:=by simpa using h
  rw [h1,h2]
  rfl
noncomputable def mptS:Fsp:=fun _ args k=>match args with
 | [.ro (.recd (.cons (.int .i64) (.cons (.int .i64) (.cons (.recd (.cons (.int .i64) (.cons (.int .i64) .nil))) .nil)))) l,.ro (.recd (.cons (.int .i64) (.cons (.int .i64) (.cons (.int .i64) .nil)))) r]=>k (ptO l r)
 | _=>none
theorem mptS_ok:FspOk Tryz.prog 14 mptS:=tower_Y fsM6_ok spM0_ok ⟨Tryz.func14,fun _ _=>by kernel_rfl⟩ (by intro α args k; unfold mptS; split<;>rfl) fun args out hSm hEq=>by
 unfold mptS at hEq
 split at hEq
 ·rename_i l r
  exact ⟨0,12,((mpt_text 0 0 AOut l r some).trans (mpt_plain l r some)).trans hEq⟩
 ·cases hEq
/-! Doubts. -/
def rdE (b:List RdI) (i:Int):RdI:=((rdG b i).1,(rdG b i).2.1,(rdG b i).2.2.1,())
abbrev stE (l:List SnI) (i:Int):SnI:=l.getD i.toNat (0,0,(0,0,()),())
/-! Read. -/
def rdOk (a b n v:Int):Bool:=(decide (0≤a)&&decide (a≤16777216))&&((decide (0≤b)&&decide (b≤100000))&&((decide (0≤n)&&decide (n≤15))&&(decide (0≤v)&&decide (v≤6553600000))))
def rdW (a b v:Int):Int:=IntKind.i64.wrap (slV v b 1000000 2 + a)
def rdV (a b n v:Int):RdI:=bif rdOk a b n v then (n,(if 0 < IntKind.i64.wrap (v - rdW a b v) then IntKind.i64.wrap (v - rdW a b v) else 0),IntKind.i64.wrap (v + rdW a b v),()) else (0,0,0,())
def rdO (a b n v:Int):AOut:=.ret (.tup [.agg [.int .i64 (rdV a b n v).1,.int .i64 (rdV a b n v).2.1,.int .i64 (rdV a b n v).2.2.1],.int .i64 (bif rdOk a b n v then 0 else 2)])
def rdX:AOut:=.ret (.tup [.agg [.int .i64 0,.int .i64 0,.int .i64 0],.int .i64 2])
theorem mrd_text (N n0:Nat) (α:Type) (a b n v:Int) (k:AOut→Option α):evFn real tab ((twY fsM6 spM0).env real tab N (n0 + 12)) N Tryz.f11 α [.agg [.int .i64 a,.int .i64 b],.int .i64 n,.int .i64 v] k =
 bif decide (0≤a) then bif !decide (a≤16777216) then k rdX else bif decide (0≤b) then bif !decide (b≤100000) then k rdX else bif decide (0≤n) then bif !decide (n≤15) then
 k rdX else bif decide (0≤v) then bif !decide (v≤6553600000) then k rdX else k (.ret (.tup [.agg [.int .i64 n,.int .i64 (if 0 < IntKind.i64.wrap (v - rdW a b v) then
 IntKind.i64.wrap (v - rdW a b v) else 0),.int .i64 (IntKind.i64.wrap (v + rdW a b v))],.int .i64 0])) else k rdX else k rdX else k rdX else k rdX:=by kernel_rfl
noncomputable def mrdS:Fsp:=fun _ args k=>match args with
 | [.agg [.int .i64 a,.int .i64 b],.int .i64 n,.int .i64 v]=>k (rdO a b n v)
 | _=>none
theorem mrdS_ok:FspOk Tryz.prog 11 mrdS:=tower_Y fsM6_ok spM0_ok ⟨Tryz.func11,fun _ _=>by kernel_rfl⟩ (by intro α args k; unfold mrdS; split<;>rfl) fun args out hSm hEq=>by
 unfold mrdS at hEq
 split at hEq
 ·rename_i a b n v
  refine ⟨0,12,(mrd_text 0 0 AOut a b n v some).trans (Eq.trans ?_ hEq)⟩
  unfold rdO rdV rdOk rdX
  cases decide (0≤a)<;>cases decide (a≤16777216)<;>cases decide (0≤b)<;>cases decide (b≤100000)<;>cases decide (0≤n)<;>cases decide (n≤15)<;>cases decide (0≤v)<;>cases decide (v≤6553600000)<;>rfl
 ·cases hEq
noncomputable def fsM7:FuncId→Option Fsp:=fun g=>
 if g=14 then some mptS else
 if g=11 then some mrdS else
 fsM6 g
theorem fsM7_ok:FsOk fsM7:=
 fs_cons mptS_ok <|
 fs_cons mrdS_ok <|
 fsM6_ok
noncomputable def fsQ0:FuncId→Option Fsp:=fun g=>
 if g=36 then some flenS else
 fsM7 g
theorem fsQ0_ok:FsOk fsQ0:=
 fs_cons flenS_ok <|
 fsM7_ok
noncomputable def exE (l:List SnI) (i:Int):RdI:=(i,lenV (stE l i).2.2.1.1 (stE l i).2.2.1.2.1 1,lenV (stE l i).2.2.1.1 (stE l i).2.2.1.2.1 2,())
noncomputable def exF {α:Type} (l:List SnI) (x:List RdI × Int × Unit):Option (LRes (List RdI × Int × Unit) α):=
 bif decide (x.2.1 < (l.length:Int)) then
  if 0≤x.2.1∧x.2.1 < (l.length:Int) then
   if (x.1.length + [exE l x.2.1].length) * 24≤room then some (.cont (x.1++[exE l x.2.1],IntKind.i64.wrap (x.2.1 + 1),())) else none
  else none
 else some (.brk 0 (x.1,x.2.1,()))
set_option maxRecDepth 100000 in
theorem mex_text (N n0:Nat) (α:Type) (l:List SnI) (k:AOut→Option α):evFn real tab ((twY fsQ0 spM0).env real tab N (n0 + 12)) N Tryz.f10 α [.ro SnSh l] k =
 bif snsE l != 0 then k (.ret (.tup [.ro RdSh [],.int .i64 (snsE l)])) else afterL (iterL N (exF l) ([],0,())) fun id y=>if id=0 then k (.ret (.tup [.ro RdSh y.1,.int .i64
 0])) else none:=by kernel_rfl
noncomputable def exN (l:List SnI) (i:Nat):List RdI:=(List.range i).map fun k:Nat=>exE l (k:Int)
theorem exN_succ (l:List SnI) (i:Nat):exN l (i + 1)=exN l i++[exE l (i:Int)]:=by
 unfold exN
 rw [List.range_succ,List.map_append]; rfl
theorem exN_len (l:List SnI) (i:Nat):(exN l i).length=i:=by
 unfold exN
 rw [List.length_map,List.length_range]
noncomputable def exL (l:List SnI):List RdI:=bif snsB l then exN l l.length else []
theorem ex_run {α:Type} {f:List RdI × Int × Unit→Option (LRes (List RdI × Int × Unit) α)} (l:List SnI) (hl:l.length≤16)
  (hf:∀ L i,i < l.length→(L.length + 1) * 24≤room→f (L,(i:Int),())=some (.cont (L++[exE l (i:Int)],((i + 1:Nat):Int),()))) (hend:∀ L,f (L,(l.length:Int),())=some (.brk 0 (L,(l.length:Int),()))) (K:Nat→List RdI × Int × Unit→Option α) :
  afterL (iterL 20 f ([],0,())) K=K 0 (exN l l.length,(l.length:Int),()):=
 count_loop (f:=f) (fun i=>(exN l i,(i:Int),())) l.length (fun i hi=>by
  rw [exN_succ]
  exact hf _ i hi (by rw [exN_len]; simp only [room]; omega)) (y:=(exN l l.length,(l.length:Int),())) (b:=0) (hend _) (by omega)
theorem exF_eq {α:Type} (l:List SnI) (hl:l.length≤16) (L:List RdI) (i:Nat) (hi:i < l.length) (hr:(L.length + 1) * 24≤room):exF (α:=α) l (L,(i:Int),())=some (.cont (L++[exE l (i:Int)],((i + 1:Nat):Int),())):=by
 have hmx:l.length≤maxLen:=by have:maxLen=9223372036854775807:=rfl; omega
 unfold exF
 simp only [lt_len hi,cond_true,in_len hi,if_pos,and_self,wrap_next hi hmx,List.length_cons,List.length_nil,Nat.zero_add,hr,decide_true]
noncomputable def exS:Fsp:=fun _ args k=>match args with
 | [.ro (.recd (.cons (.int .i64) (.cons (.int .i64) (.cons (.recd (.cons (.int .i64) (.cons (.int .i64) .nil))) .nil)))) l]=>k (.ret (.tup [.ro RdSh (exL l),.int .i64 (snsE l)]))
 | _=>none
theorem mexS_ok:FspOk Tryz.prog 10 exS:=tower_Y fsQ0_ok spM0_ok ⟨Tryz.func10,fun _ _=>by kernel_rfl⟩ (by intro α args k; unfold exS; split<;>rfl) fun args out hSm hEq=>by
 unfold exS at hEq
 split at hEq
 ·rename_i l
  refine ⟨20,12,(mex_text 20 0 AOut l some).trans (Eq.trans ?_ hEq)⟩
  unfold exL snsE
  cases h:snsB l
  ·rfl
  ·have hl:=(snsB_at h).1
   refine (ex_run (f:=exF l) l hl (exF_eq l hl) (fun L=>by unfold exF; simp only [not_lt_len,cond_false]) _).trans ?_
   rfl
 ·cases hEq
/-! Check and Read of the reference. -/
theorem sl_sc2 {v b:Int} (hv:0≤v∧v≤6553600000) (hb:0≤b∧b≤100000):slV v b 1000000 2=scV v b 1000000 2:=by
 have h1:okB v=true:=ok_iff.2 ⟨by omega,by omega⟩
 have h2:rateB b=true:=rate_iff.2 ⟨by omega,by omega⟩
 have h3:rateB 1000000=true:=rate_iff.2 ⟨by omega,by omega⟩
 unfold slV scV slOk scB slP scN
 rw [h1,h2,h3]
 have e1:ab v=v:=by unfold ab; split<;>omega
 have e2:ab b=b:=by unfold ab; split<;>omega
 have hm:0≤v * b∧v * b≤6553600000 * 100000:=⟨Int.mul_nonneg hv.1 hb.1,Int.mul_le_mul hv.2 hb.2 hb.1 (by omega)⟩
 rw [e1,e2,show ab 1000000=1000000 from rfl,rndP_small hm.1 (by omega) (by omega)]
 rfl
/-! The score of distances. -/
def dsM (l:List SnI) (d:List Int) (t:Int) (i:Nat):Int:=((List.range i).filter fun k=>(l.getD k snD).1==t).foldl (fun a k=>min a (d.getD k 0)) 129368065
theorem dsM_succ (l:List SnI) (d:List Int) (t:Int) (i:Nat):dsM l d t (i + 1)=bif (l.getD i snD).1==t then min (dsM l d t i) (d.getD i 0) else dsM l d t i:=by
 unfold dsM
 rw [List.range_succ,List.filter_append,List.foldl_append]
 have e:List.filter (fun k=>(l.getD k snD).1==t) [i]=bif (l.getD i snD).1==t then [i] else []:=by
  rw [List.filter_cons]
  cases (l.getD i snD).1==t<;>rfl
 rw [e]
 cases (l.getD i snD).1==t<;>rfl
def dsC (l:List SnI) (d:List Int) (t m:Int) (i:Nat):Nat:=(List.range i).countP fun k=>(l.getD k snD).1==t&&decide (d.getD k 0 < m)
def dsS (l:List SnI) (d:List Int):ScI:=
 bif dsM l d 0 l.length==dsM l d 1 l.length then (-1,0,()) else
 bif decide (dsM l d 1 l.length < dsM l d 0 l.length) then (1,(dsC l d 1 (dsM l d 0 l.length) l.length:Int),()) else (0,(dsC l d 0 (dsM l d 1 l.length) l.length:Int),())
def nrA (a b:RdI):Int:=bif rgtR 16 a&&rgtR 16 b then nrR a b else 0
def nrE (a b:RdI):Int:=bif rgtR 16 a&&rgtR 16 b then 0 else 2
noncomputable def mNrT:Fsp:=fun _ args k=>match args with
 | [.agg [.int .i64 a,.int .i64 b,.int .i64 c],.agg [.int .i64 d,.int .i64 e,.int .i64 f]]=>k (ansO (nrA (a,b,c,()) (d,e,f,())) (nrE (a,b,c,()) (d,e,f,())))
 | _=>none
theorem nrO_eq (a b:RdI):nrO a b=ansO (nrA a b) (nrE a b):=by
 unfold nrA nrE nrO
 cases rgtR 16 a&&rgtR 16 b<;>rfl
theorem mNrT_eq:mNrT=mNrS:=by
 funext α args k
 unfold mNrT mNrS
 split
 ·rename_i a b c d e f
  show _=k (nrO (a,b,c,()) (d,e,f,()))
  rw [nrO_eq]
 ·rename_i h
  split
  ·exact absurd rfl (h _ _ _ _ _ _)
  ·rfl
/-! Is a score among some? -/
/-! House and Nearer, case by case. -/
/-! Points: sure, or not. -/
theorem dsM_le (l:List SnI) (d:List Int) (t:Int):∀ i,dsM l d t i≤129368065∧(∀ k,k < i→(l.getD k snD).1=t→dsM l d t i≤d.getD k 0)∧(dsM l d t i=129368065∨∃ k,k < i∧(l.getD k snD).1=t∧dsM l d t i=d.getD k 0)
 | 0=>⟨Int.le_refl _,fun k h=>absurd h (Nat.not_lt_zero k),.inl rfl⟩
 | i + 1=>by
   obtain ⟨h1,h2,h3⟩:=dsM_le l d t i
   rw [dsM_succ]
   cases ht:(l.getD i snD).1==t
   ·refine ⟨h1,fun k hk e=>?_,?_⟩
    ·rcases Nat.lt_succ_iff_lt_or_eq.1 hk with h | rfl
     ·exact h2 k h e
     ·rw [e] at ht; simp at ht
    ·rcases h3 with h | ⟨k,q1,q2,q3⟩
     ·exact .inl h
     ·exact .inr ⟨k,by omega,q2,q3⟩
   ·rw [cond_true]
    have ht':(l.getD i snD).1=t:=by simpa using ht
    refine ⟨by omega,fun k hk e=>?_,?_⟩
    ·rcases Nat.lt_succ_iff_lt_or_eq.1 hk with h | rfl
     ·have:=h2 k h e; omega
     ·omega
    ·by_cases hm:dsM l d t i≤d.getD i 0
     ·rw [Int.min_eq_left hm]
      rcases h3 with h | ⟨k,q1,q2,q3⟩
      ·exact .inl h
      ·exact .inr ⟨k,by omega,q2,q3⟩
     ·rw [Int.min_eq_right (by omega)]
      exact .inr ⟨i,Nat.lt_succ_self i,ht',rfl⟩
theorem foldl_min (f:RdI→Int):∀ (l:List RdI) (a:Int),l.foldl (fun a r=>min a (f r)) a≤a∧(∀ r∈l,l.foldl (fun a r=>min a (f r)) a≤f r)∧(l.foldl (fun a r=>min a (f r)) a=a∨∃ r∈l,l.foldl (fun a r=>min a (f r)) a=f r)
 | [],a=>⟨Int.le_refl _,fun r h=>absurd h List.not_mem_nil,.inl rfl⟩
 | x :: l,a=>by
   obtain ⟨h1,h2,h3⟩:=foldl_min f l (min a (f x))
   simp only [List.foldl_cons]
   refine ⟨by omega,fun r hr=>?_,?_⟩
   ·rcases List.mem_cons.1 hr with rfl | h
    ·omega
    ·exact h2 r h
   ·rcases h3 with h | ⟨r,hr,h⟩
    ·by_cases hm:a≤f x
     ·exact .inl (by rw [h]; omega)
     ·exact .inr ⟨x,List.mem_cons_self,by rw [h]; omega⟩
    ·exact .inr ⟨r,List.mem_cons_of_mem _ hr,h⟩
def dIn (l:List SnI) (b:List RdI) (d:List Int):Prop:=∀ k,k < l.length→(b.getD k rdD).lo≤d.getD k 0∧d.getD k 0≤(b.getD k rdD).hi
theorem tmL_mem {l:List SnI} {b:List RdI} {t:Int} {r:RdI}:r∈tmL l b t↔∃ k,k < l.length∧(l.getD k snD).1=t∧b.getD k rdD=r:=by
 unfold tmL tmN
 rw [List.mem_map]
 constructor
 ·rintro ⟨k,hk,e⟩
  obtain ⟨h1,h2⟩:=List.mem_filter.1 hk
  exact ⟨k,List.mem_range.1 h1,by simpa using h2,e⟩
 ·rintro ⟨k,h1,h2,e⟩
  exact ⟨k,List.mem_filter.2 ⟨List.mem_range.2 h1,by simpa using h2⟩,e⟩
theorem minLo_le {l:List SnI} {b:List RdI} {d:List Int} (h:dIn l b d) (t:Int):minLo (tmL l b t)≤dsM l d t l.length:=by
 obtain ⟨h1,h2,h3⟩:=dsM_le l d t l.length
 obtain ⟨g1,g2,g3⟩:=foldl_min (fun r=>r.lo) (tmL l b t) 129368065
 unfold minLo
 rcases h3 with e | ⟨k,k1,k2,k3⟩
 ·rw [e]; exact g1
 ·have:=g2 _ (tmL_mem.2 ⟨k,k1,k2,rfl⟩)
  have:=h k k1
  omega
theorem le_minHi {l:List SnI} {b:List RdI} {d:List Int} (h:dIn l b d) (t:Int):dsM l d t l.length≤minHi (tmL l b t)∨(dsM l d t l.length=129368065∧awB (tmL l b t)=true):=by
 obtain ⟨h1,h2,h3⟩:=dsM_le l d t l.length
 obtain ⟨g1,g2,g3⟩:=foldl_min (fun r=>r.hi) (tmL l b t) 129368064
 by_cases hm:dsM l d t l.length≤minHi (tmL l b t)
 ·exact .inl hm
 ·right
  rcases g3 with e | ⟨r,hr,e⟩
  ·have e':minHi (tmL l b t)=129368064:=e
   have h5:dsM l d t l.length=129368065:=by omega
   refine ⟨h5,?_⟩
   unfold awB
   rw [Bool.not_eq_true',List.any_eq_false]
   intro q hq
   rw [decide_eq_true_eq]
   obtain ⟨k,k1,k2,rfl⟩:=tmL_mem.1 hq
   have:=h2 k k1 k2
   have:=h k k1
   omega
  ·exfalso
   obtain ⟨k,k1,k2,rfl⟩:=tmL_mem.1 hr
   have e':minHi (tmL l b t)=(b.getD k rdD).hi:=e
   have:=h2 k k1 k2
   have:=h k k1
   omega
theorem must_tm (l:List SnI) (b:List RdI) (t m:Int):mustN (tmL l b t) m=(List.range l.length).countP fun k=>(l.getD k snD).1==t&&decide ((b.getD k rdD).hi≤m):=by
 unfold mustN tmL tmN
 rw [List.countP_map,List.countP_filter]
 refine List.countP_congr fun k _=>?_
 simp only [Function.comp]
 rw [Bool.and_comm]
theorem can_tm (l:List SnI) (b:List RdI) (t m:Int):canN (tmL l b t) m=(List.range l.length).countP fun k=>(l.getD k snD).1==t&&decide ((b.getD k rdD).lo≤m):=by
 unfold canN tmL tmN
 rw [List.countP_map,List.countP_filter]
 refine List.countP_congr fun k _=>?_
 simp only [Function.comp]
 rw [Bool.and_comm]
theorem count_in {l:List SnI} {b:List RdI} {d:List Int} (h:dIn l b d) (t m:Int):mustN (tmL l b t) (m - 1)≤dsC l d t m l.length∧dsC l d t m l.length≤canN (tmL l b t) (m - 1):=by
 rw [must_tm,can_tm]
 unfold dsC
 constructor
 ·refine List.countP_mono_left fun k hk hp=>?_
  rw [Bool.and_eq_true,decide_eq_true_eq] at hp ⊢
  have:=h k (List.mem_range.1 hk)
  exact ⟨hp.1,by omega⟩
 ·refine List.countP_mono_left fun k hk hp=>?_
  rw [Bool.and_eq_true,decide_eq_true_eq] at hp ⊢
  have:=h k (List.mem_range.1 hk)
  exact ⟨hp.1,by omega⟩
theorem count_pos {l:List SnI} {d:List Int} {t m:Int} (h:dsM l d t l.length < m) (hm:m≤129368065):1≤dsC l d t m l.length:=by
 obtain ⟨h1,h2,h3⟩:=dsM_le l d t l.length
 rcases h3 with e | ⟨k,k1,k2,k3⟩
 ·omega
 ·unfold dsC
  refine List.countP_pos_iff.2 ⟨k,List.mem_range.2 k1,?_⟩
  rw [Bool.and_eq_true,decide_eq_true_eq,beq_iff_eq]
  exact ⟨k2,by omega⟩
theorem greatest (x0 L:Int) (h0:x0≤L):∀ X:List Int,∃ y,(y=x0∨y∈X)∧x0≤y∧y≤L∧∀ z∈X,z≤L→z≤y
 | []=>⟨x0,.inl rfl,Int.le_refl _,h0,fun z h=>absurd h List.not_mem_nil⟩
 | q :: X=>by
   obtain ⟨y,h1,h2,h3,h4⟩:=greatest x0 L h0 X
   by_cases hq:q≤L∧y < q
   ·refine ⟨q,.inr List.mem_cons_self,by omega,hq.1,fun z hz hl=>?_⟩
    rcases List.mem_cons.1 hz with rfl | h
    ·exact Int.le_refl _
    ·have:=h4 z h hl; omega
   ·refine ⟨y,h1.imp id fun h=>List.mem_cons_of_mem _ h,h2,h3,fun z hz hl=>?_⟩
    rcases List.mem_cons.1 hz with rfl | h
    ·omega
    ·exact h4 z h hl
theorem limit_same (s o:List RdI) (m:Int) (h1:minLo o≤m) (h2:m≤minHi o):∃ d∈lims s o,mustN s d=mustN s (m - 1)∧canN s d=canN s (m - 1):=by
 obtain ⟨y,hy1,hy2,hy3,hy4⟩:=greatest (minLo o - 1) (m - 1) (by omega) (s.flatMap (limR o))
 have inL:∀ r∈s,∀ z,(z=r.lo∨z=r.hi)→z≤m - 1→z≤y:=fun r hr z hz hl=>by
  by_cases hz1:z≤minLo o - 1
  ·omega
  ·refine hy4 z (List.mem_flatMap.2 ⟨r,hr,?_⟩) hl
   unfold limR
   refine List.mem_filter.2 ⟨?_,?_⟩
   ·rcases hz with rfl | rfl
    ·exact List.mem_cons_self
    ·exact List.mem_cons_of_mem _ List.mem_cons_self
   ·rw [Bool.and_eq_true,decide_eq_true_eq,decide_eq_true_eq]; omega
 refine ⟨y,?_,?_,?_⟩
 ·unfold lims
  rw [decide_eq_true (show minLo o≤minHi o by omega),cond_true]
  refine List.mem_append_right _ ?_
  rcases hy1 with rfl | h
  ·exact List.mem_cons_self
  ·exact List.mem_cons_of_mem _ h
 ·unfold mustN
  refine List.countP_congr fun r hr=>?_
  rw [decide_eq_true_eq,decide_eq_true_eq]
  exact ⟨fun h=>by omega,fun h=>inL r hr _ (.inr rfl) h⟩
 ·unfold canN
  refine List.countP_congr fun r hr=>?_
  rw [decide_eq_true_eq,decide_eq_true_eq]
  exact ⟨fun h=>by omega,fun h=>inL r hr _ (.inl rfl) h⟩
theorem score_team {l:List SnI} {b:List RdI} {d:List Int} (h:dIn l b d) (hl:l.length≤16) (t o:Int) (hlt:dsM l d t l.length < dsM l d o l.length):(t,(dsC l d t (dsM l d o l.length) l.length:Int),())∈scT (tmL l b t) (tmL l b o) t:=by
 have h16:(tmL l b t).length≤16:=Nat.le_trans (tmN_len _ _ _ _) hl
 refine (scT_mem _ _ t h16 _).1 ?_
 obtain ⟨c1,c2⟩:=count_in h t (dsM l d o l.length)
 have hM:=(dsM_le l d o l.length).1
 have c0:=count_pos hlt hM
 rcases le_minHi h o with hh | ⟨hh,ha⟩
 ·obtain ⟨z,z1,z2,z3⟩:=limit_same (tmL l b t) (tmL l b o) (dsM l d o l.length) (minLo_le h o) hh
  exact ⟨z,z1,_,by omega,by omega,rfl⟩
 ·refine ⟨129368064,?_,_,?_,?_,rfl⟩
  ·unfold lims
   rw [ha,cond_true]
   exact List.mem_append_left _ (List.mem_singleton.2 rfl)
  ·rw [hh] at c1 c0 ⊢
   have e:(129368065:Int) - 1=129368064:=by omega
   rw [e] at c1
   omega
  ·rw [hh] at c2 ⊢
   have e:(129368065:Int) - 1=129368064:=by omega
   rw [e] at c2
   exact c2
theorem score_in {l:List SnI} {b:List RdI} {d:List Int} (h:dIn l b d) (hl:l.length≤16):dsS l d∈scL (tmL l b 0) (tmL l b 1):=by
 unfold dsS
 cases he:dsM l d 0 l.length==dsM l d 1 l.length
 ·rw [cond_false]
  have hne:dsM l d 0 l.length≠dsM l d 1 l.length:=by
   intro e; rw [e] at he; simp at he
  by_cases hlt:dsM l d 1 l.length < dsM l d 0 l.length
  ·rw [decide_eq_true hlt,cond_true]
   exact List.mem_append_right _ (List.mem_append_right _ (score_team h hl 1 0 hlt))
  ·rw [decide_eq_false hlt,cond_false]
   exact List.mem_append_right _ (List.mem_append_left _ (score_team h hl 0 1 (by omega)))
 ·rw [cond_true]
  have e:dsM l d 0 l.length=dsM l d 1 l.length:=by simpa using he
  have ht:tieB (tmL l b 0) (tmL l b 1)=true:=by
   unfold tieB
   rw [Bool.or_eq_true,Bool.and_eq_true,decide_eq_true_eq]
   have a1:=minLo_le h 0
   have a2:=minLo_le h 1
   rcases le_minHi h 0 with h0 | ⟨h0,q0⟩<;>rcases le_minHi h 1 with h1 | ⟨h1,q1⟩
   ·right; omega
   ·have:=(foldl_min (fun r=>r.hi) (tmL l b 0) 129368064).1
    have:minHi (tmL l b 0)≤129368064:=this
    omega
   ·have:=(foldl_min (fun r=>r.hi) (tmL l b 1) 129368064).1
    have:minHi (tmL l b 1)≤129368064:=this
    omega
   ·exact .inl ⟨q0,q1⟩
  unfold scL
  rw [ht,cond_true]
  exact List.mem_append_left _ (List.mem_singleton.2 rfl)
def rgAll (b:List RdI):Prop:=∀ k,k < b.length→rgtR 16 (b.getD k rdD)=true
theorem rdE_at (b:List RdI) (i:Nat):rdE b (i:Int)=b.getD i rdD:=by
 unfold rdE rdG
 rw [Int.toNat_natCast]
theorem no_err {l:List SnI} {r:List RdI} (h:bdsE l r=0):snsB l=true∧bndE l.length r=0∧bndR l.length r=bndM l.length r∧l.length≤16∧rgAll (bndM l.length r)∧∀ k,k < l.length→0≤((bndM l.length r).getD k rdD).lo∧((bndM l.length r).getD k rdD).lo≤((bndM l.length r).getD k rdD).hi∧((bndM l.length r).getD k rdD).hi≤70368744177664:=by
 unfold bdsE at h
 cases h1:decide (r.length≤256)
 ·rw [h1] at h; cases h
 rw [h1,cond_true] at h
 cases h2:snsB l
 ·rw [h2] at h; cases h
 rw [h2,cond_true] at h
 obtain ⟨g1,g2⟩:=bnd_good h
 rw [bndM_len] at g1
 refine ⟨rfl,h,by unfold bndR; rw [h]; rfl,g1,fun k hk=>?_,g2⟩
 rw [bndM_len] at hk
 have:=g2 k hk
 rw [bndM_get _ _ hk] at this ⊢
 unfold rgtR
 simp only [Bool.and_eq_true,decide_eq_true_eq]
 exact ⟨⟨Int.natCast_nonneg k,by omega⟩,this.1,this.2.1,this.2.2⟩
theorem fth_text (N n0:Nat) (α:Type) (x y u v:Int) (k:AOut→Option α):evFn real tab ((twY fsL2 spL).env real tab N (n0 + 12)) N Tryz.f13 α [.agg [.int .i64 x,.int .i64 y],.agg [.int .i64 u,.int .i64 v]] k =
 bif okB x&&okB y then bif okB u&&okB v then bif wBc (loW (sq2 x y))&&wBc (loW (sq2 u v)) then k (i2 (cmp3 (vw (hiW (sq2 x y)) (loW (sq2 x y))) (vw (hiW (sq2 u v)) (loW (sq2 u
 v)))) 0) else none else k (i2 0 2) else k (i2 0 2):=by kernel_rfl
def fthB (x y u v:Int):Bool:=okB x&&okB y&&(okB u&&okB v)
def fthV (x y u v:Int):Int:=bif fthB x y u v then cmp3 (sq2 x y) (sq2 u v) else 0
def fthE (x y u v:Int):Int:=bif fthB x y u v then 0 else 2
noncomputable def fthS:Fsp:=fun _ args k=>match args with
 | [.agg [.int .i64 x,.int .i64 y],.agg [.int .i64 u,.int .i64 v]]=>k (i2 (fthV x y u v) (fthE x y u v))
 | _=>none
theorem fthS_ok:FspOk Tryz.prog 13 fthS:=tower_Y fsL2_ok spL_ok ⟨Tryz.func13,fun _ _=>by kernel_rfl⟩ (by intro α args k; unfold fthS; split<;>rfl) fun args out hSm hEq=>by
 unfold fthS at hEq
 split at hEq
 ·rename_i x y u v
  refine ⟨1,12,(fth_text 1 0 AOut x y u v some).trans (Eq.trans ?_ hEq)⟩
  unfold fthV fthE fthB
  rw [wBc_eq,lo_wB,lo_wB,vw_hl,vw_hl]
  cases okB x&&okB y<;>cases okB u&&okB v<;>rfl
 ·cases hEq
noncomputable def trV (l:List SnI) (a:Int) (p:List Int) (i:Int):Int:=
 bif decide ((p.length:Int) > 0) then IntKind.i64.wrap (((exL l).getD i.toNat (0,0,0,())).2.1 + IntKind.i64.wrap (IntKind.i64.wrap (a.tdiv 32768) * IntKind.i64.wrap (p.getD (i.tmod (p.length:Int)).toNat 0))) else ((exL l).getD i.toNat (0,0,0,())).2.1
noncomputable def trC {α:Type} (l:List SnI) (a b:Int) (R:Option α) (x:List RdI × Int × Unit) (V:Int):Option (LRes (List RdI × Int × Unit) α):=
 bif (bif rdOk a b x.2.1 (if 0 < V then V else 0) then (0:Int) else 2) != 0 then finL R else
 bif decide (((exL l).getD x.2.1.toNat (0,0,0,())).2.1 < (rdV a b x.2.1 (if 0 < V then V else 0)).2.1) then finL R else
 bif decide (((exL l).getD x.2.1.toNat (0,0,0,())).2.2.1 > (rdV a b x.2.1 (if 0 < V then V else 0)).2.2.1) then finL R else
 if (x.1.length + [(((rdV a b x.2.1 (if 0 < V then V else 0)).1,(rdV a b x.2.1 (if 0 < V then V else 0)).2.1,(rdV a b x.2.1 (if 0 < V then V else 0)).2.2.1,()):RdI)].length) * 24≤room then
  some (.cont (x.1++[((rdV a b x.2.1 (if 0 < V then V else 0)).1,(rdV a b x.2.1 (if 0 < V then V else 0)).2.1,(rdV a b x.2.1 (if 0 < V then V else 0)).2.2.1,())],IntKind.i64.wrap (x.2.1 + 1),()))
 else none
noncomputable def trL {α:Type} (l:List SnI) (a b:Int) (p:List Int) (R:Option α) (x:List RdI × Int × Unit):Option (LRes (List RdI × Int × Unit) α):=
 bif decide (x.2.1 < ((exL l).length:Int)) then
  if 0≤x.2.1∧x.2.1 < ((exL l).length:Int) then
   bif decide ((p.length:Int) > 0) then
    if (p.length:Int)=0 then none else
    if 0≤x.2.1.tmod (p.length:Int)∧x.2.1.tmod (p.length:Int) < (p.length:Int) then
     trC l a b R x (IntKind.i64.wrap (((exL l).getD x.2.1.toNat (0,0,0,())).2.1 + IntKind.i64.wrap (IntKind.i64.wrap (a.tdiv 32768) * IntKind.i64.wrap (p.getD (x.2.1.tmod (p.length:Int)).toNat 0))))
    else none
   else trC l a b R x ((exL l).getD x.2.1.toNat (0,0,0,())).2.1
  else none
 else some (.brk 0 (x.1,x.2.1,()))
def nfF {α:Type} (l:List SnI) (b:List RdI) (R:Option (LRes (Int × Unit) α)) (i:Int) (x:Int × Unit):Option (LRes (Int × Unit) (LRes (Int × Unit) α)):=
 bif decide (x.1 < (l.length:Int)) then
  if 0≤i∧i < (b.length:Int) then if 0≤x.1∧x.1 < (b.length:Int) then if 0≤i∧i < (l.length:Int) then if 0≤x.1∧x.1 < (l.length:Int) then
   bif nrE (rdE b i) (rdE b x.1) != 0 then finL R else
   bif fthE (stE l i).2.2.1.1 (stE l i).2.2.1.2.1 (stE l x.1).2.2.1.1 (stE l x.1).2.2.1.2.1 != 0 then finL R else
   let D:=bif decide (nrA (rdE b i) (rdE b x.1) > 0) then bif decide (fthV (stE l i).2.2.1.1 (stE l i).2.2.1.2.1 (stE l x.1).2.2.1.1 (stE l x.1).2.2.1.2.1≤0) then finL R else some (.cont (IntKind.i64.wrap (x.1 + 1),())) else some (.cont (IntKind.i64.wrap (x.1 + 1),()))
   bif decide (nrA (rdE b i) (rdE b x.1) < 0) then bif decide (fthV (stE l i).2.2.1.1 (stE l i).2.2.1.2.1 (stE l x.1).2.2.1.1 (stE l x.1).2.2.1.2.1 ≥ 0) then finL R else D else D
  else none else none else none else none
 else some (.brk 4 (x.1,()))
def nfG {α:Type} (N:Nat) (l:List SnI) (b:List RdI) (R:Option α) (x:Int × Unit):Option (LRes (Int × Unit) α):=
 bif decide (x.1 < (l.length:Int)) then
  afterL (iterL N (nfF l b (finL R) x.1) (0,())) fun id _=>if id=4 then some (.cont (IntKind.i64.wrap (x.1 + 1),())) else none
 else some (.brk 2 (x.1,()))
theorem dn_up {x y:Int} (hx:-6553600000≤x∧x≤6553600000) (hy:-6553600000≤y∧y≤6553600000):lenV x y 1=rt (sq2 x y)∧lenV x y 2=rtN (sq2 x y) 2∧0≤rt (sq2 x y)∧rt (sq2 x y) * rt (sq2 x y)≤sq2 x y∧sq2 x y≤rtN (sq2 x y) 2 * rtN (sq2 x y) 2∧rt (sq2 x y)≤rtN (sq2 x y) 2∧rtN (sq2 x y) 2≤70368744177664:=by
 have ax:0≤ab x∧ab x≤6553600000:=by unfold ab; split<;>omega
 have ay:0≤ab y∧ab y≤6553600000:=by unfold ab; split<;>omega
 have m1:0≤ab x * ab x∧ab x * ab x≤6553600000 * 6553600000:=⟨Int.mul_nonneg ax.1 ax.1,Int.mul_le_mul ax.2 ax.2 ax.1 (by omega)⟩
 have m2:0≤ab y * ab y∧ab y * ab y≤6553600000 * 6553600000:=⟨Int.mul_nonneg ay.1 ay.1,Int.mul_le_mul ay.2 ay.2 ay.1 (by omega)⟩
 have hs:0≤sq2 x y∧sq2 x y≤85899345920000000000:=by unfold sq2; omega
 obtain ⟨r0,r1,r2,_⟩:=rt_spec hs.1 (by omega)
 have r3:rt (sq2 x y)≤70368744177663:=by
  refine Int.not_lt.1 fun h=>?_
  have:70368744177664 * 70368744177664≤rt (sq2 x y) * rt (sq2 x y):=Int.mul_le_mul (by omega) (by omega) (by omega) r0
  omega
 have hB1:lenB x y 1=true:=by
  unfold lenB
  rw [ok_iff.2 (show -70368744177664≤x∧x≤70368744177664 by omega),ok_iff.2 (show -70368744177664≤y∧y≤70368744177664 by omega)]; rfl
 have hB2:lenB x y 2=true:=by
  unfold lenB
  rw [ok_iff.2 (show -70368744177664≤x∧x≤70368744177664 by omega),ok_iff.2 (show -70368744177664≤y∧y≤70368744177664 by omega)]; rfl
 have e1:rtN (sq2 x y) 1=rt (sq2 x y):=Int.add_zero _
 have e2:rtN (sq2 x y) 2=rt (sq2 x y) + bif !(rt (sq2 x y) * rt (sq2 x y)==sq2 x y) then 1 else 0:=rfl
 have hf:∀ n:Int,n≤70368744177664→fxV false n=n:=fun n h=>by
  unfold fxV fxB
  rw [decide_eq_true h]; rfl
 have e3:rt (sq2 x y)≤rtN (sq2 x y) 2∧rtN (sq2 x y) 2≤rt (sq2 x y) + 1∧sq2 x y≤rtN (sq2 x y) 2 * rtN (sq2 x y) 2:=by
  rw [e2]
  cases hq:rt (sq2 x y) * rt (sq2 x y)==sq2 x y
  ·refine ⟨by simp only [Bool.not_false,cond_true]; omega,by simp only [Bool.not_false,cond_true]; omega,?_⟩
   show _≤(rt (sq2 x y) + 1) * (rt (sq2 x y) + 1)
   omega
  ·rw [beq_iff_eq] at hq
   refine ⟨by simp only [Bool.not_true,cond_false]; omega,by simp only [Bool.not_true,cond_false]; omega,?_⟩
   show _≤(rt (sq2 x y) + 0) * (rt (sq2 x y) + 0)
   rw [Int.add_zero,hq]
   exact Int.le_refl _
 refine ⟨?_,?_,r0,r1,e3.2.2,e3.1,by omega⟩
 ·unfold lenV
  rw [hB1,cond_true,e1,hf _ (by omega)]
 ·unfold lenV
  rw [hB2,cond_true,hf _ (by omega)]
theorem sq_lt {s t a b:Int} (h1:s≤a * a) (h2:b * b≤t) (h0:0≤a) (h:a < b):s < t:=by
 have e1:a * a≤a * b:=Int.mul_le_mul_of_nonneg_left (Int.le_of_lt h) h0
 have e2:a * b < b * b:=Int.mul_lt_mul_of_pos_right h (by omega)
 omega
/-! Bounds of readings. -/
theorem bLo_le (k:Nat) (c:Int) (h0:0≤c) (l:List RdI) (h:∀ r∈l,r.1=(k:Int)→r.lo≤c):bLo l k≤c:=by
 unfold bLo
 have:∀ (l:List RdI) (a:Int),(∀ r∈l,r.1=(k:Int)→r.lo≤c)→a≤c→l.foldl (fun a r=>if r.1=(k:Int) then max a r.lo else a) a≤c:=by
  intro l
  induction l with
  | nil=>intro a _ h; exact h
  | cons r l ih=>
    intro a hr ha
    refine ih _ (fun q hq=>hr q (List.mem_cons_of_mem _ hq)) ?_
    show (if r.1=(k:Int) then max a r.lo else a)≤c
    have:=hr r List.mem_cons_self
    split
    ·rename_i e; have:=this e; omega
    ·exact ha
 exact this l 0 h h0
theorem le_bHi (k:Nat) (c:Int) (h0:c≤70368744177664) (l:List RdI) (h:∀ r∈l,r.1=(k:Int)→c≤r.hi):c≤bHi l k:=by
 unfold bHi
 have:∀ (l:List RdI) (a:Int),(∀ r∈l,r.1=(k:Int)→c≤r.hi)→c≤a→c≤l.foldl (fun a r=>if r.1=(k:Int) then min a r.hi else a) a:=by
  intro l
  induction l with
  | nil=>intro a _ h; exact h
  | cons r l ih=>
    intro a hr ha
    refine ih _ (fun q hq=>hr q (List.mem_cons_of_mem _ hq)) ?_
    show c≤(if r.1=(k:Int) then min a r.hi else a)
    have:=hr r List.mem_cons_self
    split
    ·rename_i e; have:=this e; omega
    ·exact ha
 exact this l _ h h0
theorem exL_get {l:List SnI} (h:snsB l=true) {i:Nat} (hi:i < l.length):(exL l).getD i (0,0,0,())=exE l (i:Int):=by
 unfold exL exN
 rw [h,cond_true,List.getD_eq_getElem?_getD,List.getElem?_map,List.getElem?_range hi]; rfl
theorem exL_len {l:List SnI} (h:snsB l=true):(exL l).length=l.length:=by
 unfold exL
 rw [h,cond_true,exN_len]
theorem sn_in {l:List SnI} (h:snsB l=true) {k:Nat} (hk:k < l.length):(-6553600000≤(l.getD k snD).x∧(l.getD k snD).x≤6553600000)∧(-6553600000≤(l.getD k snD).y∧(l.getD k snD).y≤6553600000):=by
 have:=(snsB_at h).2 k hk
 unfold snV at this
 simp only [Bool.and_eq_true,decide_eq_true_eq] at this
 exact ⟨this.1,this.2.1⟩
theorem ex_at (l:List SnI) (k:Nat):exE l (k:Int)=((k:Int),lenV (l.getD k snD).x (l.getD k snD).y 1,lenV (l.getD k snD).x (l.getD k snD).y 2,()):=rfl
theorem ex_in {l:List SnI} (h:snsB l=true) {k:Nat} (hk:k < l.length):0≤(exE l (k:Int)).lo∧(exE l (k:Int)).lo≤(exE l (k:Int)).hi∧(exE l (k:Int)).hi≤70368744177664:=by
 obtain ⟨hx,hy⟩:=sn_in h hk
 obtain ⟨d1,d2,d3,_,_,d6,d7⟩:=dn_up hx hy
 rw [ex_at]
 show 0≤lenV _ _ 1∧lenV _ _ 1≤lenV _ _ 2∧lenV _ _ 2≤_
 rw [d1,d2]
 exact ⟨d3,d6,d7⟩
theorem exL_mem {l:List SnI} (h:snsB l=true) {r:RdI} (hr:r∈exL l):∃ k:Nat,k < l.length∧exE l (k:Int)=r:=by
 unfold exL exN at hr
 rw [h,cond_true] at hr
 obtain ⟨k,hk,e⟩:=List.mem_map.1 hr
 exact ⟨k,List.mem_range.1 hk,e⟩
theorem ex_bds {l:List SnI} (h:snsB l=true):bdsE l (exL l)=0∧∀ k,k < l.length→bLo (exL l) k≤(exE l (k:Int)).lo∧(exE l (k:Int)).hi≤bHi (exL l) k:=by
 have hl:=(snsB_at h).1
 have lo:∀ k,k < l.length→bLo (exL l) k≤(exE l (k:Int)).lo:=fun k hk=>bLo_le k _ (ex_in h hk).1 _ fun r hr e=>by
  obtain ⟨j,hj,rfl⟩:=exL_mem h hr
  have e':(j:Int)=k:=e
  have:j=k:=by omega
  subst this
  exact Int.le_refl _
 have hi:∀ k,k < l.length→(exE l (k:Int)).hi≤bHi (exL l) k:=fun k hk=>le_bHi k _ (ex_in h hk).2.2 _ fun r hr e=>by
  obtain ⟨j,hj,rfl⟩:=exL_mem h hr
  have e':(j:Int)=k:=e
  have:j=k:=by omega
  subst this
  exact Int.le_refl _
 refine ⟨?_,fun k hk=>⟨lo k hk,hi k hk⟩⟩
 have hlen:(exL l).length≤256:=by rw [exL_len h]; omega
 unfold bdsE
 rw [decide_eq_true hlen,cond_true,h,cond_true]
 unfold bndE
 have n1:nB (l.length:Int)=true:=by unfold nB; rw [decide_eq_true (by omega),decide_eq_true (by omega)]; rfl
 have n2:rdsB (l.length:Int) (exL l)=true:=by
  unfold rdsB
  rw [Bool.not_eq_true',List.any_eq_false]
  intro r hr
  obtain ⟨j,hj,rfl⟩:=exL_mem h hr
  have q:=ex_in h hj
  have:rgtR (l.length:Int) (exE l (j:Int))=true:=by
   unfold rgtR
   simp only [Bool.and_eq_true,decide_eq_true_eq]
   exact ⟨⟨by show (0:Int)≤j; omega,by show (j:Int)≤_; omega⟩,q.1,q.2.1,q.2.2⟩
  rw [this]; exact Bool.noConfusion
 have n3:bndC l.length (exL l)=false:=by
  unfold bndC
  rw [List.any_eq_false]
  intro k hk
  have hk':=List.mem_range.1 hk
  have h1:=lo k hk'
  have h2:=hi k hk'
  have h3:=ex_in h hk'
  rw [decide_eq_true_eq]
  omega
 rw [decide_eq_true hlen,n1,n2,Int.toNat_natCast,n3]
 rfl
noncomputable def xsc (l:List SnI):List ScI:=scR l (exL l)
theorem xsc_pos {l:List SnI} (h:snsB l=true):0 < (xsc l).length:=by
 obtain ⟨e,hb⟩:=ex_bds h
 have hl:=(snsB_at h).1
 have hlen:=exL_len h
 have hm:=score_in (l:=l) (b:=bndM l.length (exL l)) (d:=(List.range l.length).map fun k:Nat=>(exE l (k:Int)).lo) (fun k hk=>by
  rw [bndM_get _ _ hk,List.getD_eq_getElem?_getD,List.getElem?_map,List.getElem?_range hk]
  obtain ⟨h1,h2⟩:=hb k hk
  have:=ex_in h hk
  exact ⟨h1,by show (exE l (k:Int)).lo≤bHi (exL l) k; omega⟩) hl
 unfold xsc scR
 rw [e,show ((0:Int)==0)=true from rfl,cond_true]
 exact List.length_pos_of_mem hm
/-! Lengths. -/
/-! The readings of the tool. -/
noncomputable def trW (l:List SnI) (a:Int) (p:List Int) (i:Nat):Int:=if 0 < trV l a p (i:Int) then trV l a p (i:Int) else 0
noncomputable def trR (l:List SnI) (a b:Int) (p:List Int) (i:Nat):RdI:=rdV a b (i:Int) (trW l a p i)
noncomputable def trN (l:List SnI) (a b:Int) (p:List Int) (i:Nat):List RdI:=(List.range i).map (trR l a b p)
noncomputable def trBad (l:List SnI) (a b:Int) (p:List Int) (i:Nat):Bool:=!rdOk a b (i:Int) (trW l a p i) || (decide ((exE l (i:Int)).lo < (trR l a b p i).lo) || decide ((exE l (i:Int)).hi > (trR l a b p i).hi))
theorem trN_succ (l:List SnI) (a b:Int) (p:List Int) (i:Nat):trN l a b p (i + 1)=trN l a b p i++[trR l a b p i]:=by
 unfold trN
 rw [List.range_succ,List.map_append]; rfl
theorem trN_len (l:List SnI) (a b:Int) (p:List Int) (i:Nat):(trN l a b p i).length=i:=by
 unfold trN
 rw [List.length_map,List.length_range]
theorem trL_eq {α:Type} {l:List SnI} (h:snsB l=true) (a b:Int) (p:List Int) (R:Option α) {i:Nat} (hi:i < l.length):trL l a b p R (trN l a b p i,(i:Int),())=bif trBad l a b p i then finL R else some (.cont (trN l a b p (i + 1),((i + 1:Nat):Int),())):=by
 have hl:=(snsB_at h).1
 have hmx:l.length≤maxLen:=by have:maxLen=9223372036854775807:=rfl; omega
 have e:trL l a b p R (trN l a b p i,(i:Int),())=trC l a b R (trN l a b p i,(i:Int),()) (trV l a p (i:Int)):=by
  unfold trL trV
  simp only []
  rw [exL_len h,lt_len hi,cond_true,if_pos (in_len hi)]
  by_cases hp:0 < p.length
  ·rw [decide_eq_true (show (p.length:Int) > 0 by omega),cond_true,cond_true,if_neg (show ¬ (p.length:Int)=0 by omega),if_pos ⟨Int.tmod_nonneg _ (by omega),Int.tmod_lt_of_pos _ (by omega)⟩]
  ·rw [decide_eq_false (show ¬ (p.length:Int) > 0 by omega),cond_false,cond_false]
 rw [e]
 unfold trC trBad
 simp only []
 rw [Int.toNat_natCast,exL_get h hi,wrap_next hi hmx,trN_succ]
 have hr:((trN l a b p i).length + 1) * 24≤room:=by rw [trN_len]; simp only [room]; omega
 show (bif (bif rdOk a b (i:Int) (trW l a p i) then (0:Int) else 2) != 0 then finL R else bif decide ((exE l (i:Int)).lo < (trR l a b p i).lo) then finL R else bif decide ((exE l (i:Int)).hi > (trR l a b p i).hi) then finL R else if ((trN l a b p i).length + 1) * 24≤room then some (.cont (trN l a b p i++[trR l a b p i],((i + 1:Nat):Int),())) else none)=_
 rw [if_pos hr]
 cases rdOk a b (i:Int) (trW l a p i)
 ·rfl
 ·cases decide ((exE l (i:Int)).lo < (trR l a b p i).lo)
  ·cases decide ((exE l (i:Int)).hi > (trR l a b p i).hi)<;>rfl
  ·rfl
theorem tr_run {α:Type} {l:List SnI} (h:snsB l=true) (a b:Int) (p:List Int) (R:Option α) (K:Nat→List RdI × Int × Unit→Option α):afterL (iterL 20 (trL l a b p R) ([],0,())) K=bif (List.range l.length).any (trBad l a b p) then R else K 0 (trN l a b p l.length,(l.length:Int),()):=by
 have hl:=(snsB_at h).1
 refine any_loop' (f:=trL l a b p R) (fun i:Nat=>(trN l a b p i,(i:Int),())) l.length (trBad l a b p) R (fun i hi=>trL_eq h a b p R hi) (y:=(trN l a b p l.length,(l.length:Int),())) (b:=0) ?_ (by omega)
 unfold trL
 simp only [exL_len h,not_lt_len,cond_false]
theorem tr_good {l:List SnI} (h:snsB l=true) {a b:Int} {p:List Int} (hb:(List.range l.length).any (trBad l a b p)=false) {k:Nat} (hk:k < l.length):(trR l a b p k).1=(k:Int)∧0≤(trR l a b p k).lo∧(trR l a b p k).lo≤(exE l (k:Int)).lo∧(exE l (k:Int)).hi≤(trR l a b p k).hi∧(trR l a b p k).hi≤70368744177664:=by
 rw [List.any_eq_false] at hb
 have:=hb k (List.mem_range.2 hk)
 unfold trBad at this
 simp only [Bool.or_eq_true,Bool.not_eq_true',decide_eq_true_eq,not_or,Bool.not_eq_false] at this
 obtain ⟨g1,g2,g3⟩:=this
 have hO:=g1
 unfold rdOk at hO
 simp only [Bool.and_eq_true,decide_eq_true_eq] at hO
 obtain ⟨⟨a1,a2⟩,⟨b1,b2⟩,_,v1,v2⟩:=hO
 have eR:trR l a b p k=((k:Int),(if 0 < IntKind.i64.wrap (trW l a p k - rdW a b (trW l a p k)) then IntKind.i64.wrap (trW l a p k - rdW a b (trW l a p k)) else 0),IntKind.i64.wrap (trW l a p k + rdW a b (trW l a p k)),()):=by
  unfold trR rdV
  rw [g1]; rfl
 refine ⟨by rw [eR],?_,by omega,by omega,?_⟩
 ·rw [eR]
  show 0≤(if 0 < IntKind.i64.wrap (trW l a p k - rdW a b (trW l a p k)) then IntKind.i64.wrap (trW l a p k - rdW a b (trW l a p k)) else 0)
  split<;>omega
 ·rw [eR]
  show IntKind.i64.wrap (trW l a p k + rdW a b (trW l a p k))≤70368744177664
  have hs:0≤slV (trW l a p k) b 1000000 2∧slV (trW l a p k) b 1000000 2≤655360001:=by
   rw [sl_sc2 ⟨v1,v2⟩ ⟨b1,b2⟩]
   have hm:0≤trW l a p k * b∧trW l a p k * b≤6553600000 * 100000:=⟨Int.mul_nonneg v1 b1,Int.mul_le_mul v2 b2 b1 (by omega)⟩
   have e1:ab (trW l a p k)=trW l a p k:=by unfold ab; split<;>omega
   have e2:ab b=b:=by unfold ab; split<;>omega
   have hn:0≤scN (trW l a p k) b 1000000 2∧scN (trW l a p k) b 1000000 2≤655360001:=by
    unfold scN rnd
    rw [e1,e2,show ab 1000000=1000000 from rfl]
    cases up1 2 (scG (trW l a p k) b 1000000) (trW l a p k * b % 1000000) 1000000<;>simp only [cond_true,cond_false]<;>omega
   have hg:scG (trW l a p k) b 1000000=false:=by
    unfold scG xorB ngB
    rw [decide_eq_false (show ¬ trW l a p k < 0 by omega),decide_eq_false (show ¬ b < 0 by omega)]; rfl
   unfold scV
   cases scB (trW l a p k) b 1000000 2
   ·exact ⟨by simp,by simp⟩
   ·rw [cond_true,show ((1000000:Int)==0)=false from rfl,cond_false,hg]
    unfold fxV fxB
    rw [decide_eq_true (show scN (trW l a p k) b 1000000 2≤70368744177664 by omega)]
    exact hn
  unfold rdW
  rw [IntKind.wrap_i64,IntKind.wrap_i64]
  omega
/-! The lengths of the stones, and their score. -/
/-! No stone that is farther is called nearer. -/
structure NfOk (l:List SnI) (b:List RdI):Prop where
 e1:∀ i k,i < l.length→k < l.length→nrE (b.getD i rdD) (b.getD k rdD)=0
 e2:∀ i k,i < l.length→k < l.length→fthE (l.getD i snD).x (l.getD i snD).y (l.getD k snD).x (l.getD k snD).y=0
 lt:∀ i k,i < l.length→k < l.length→nrA (b.getD i rdD) (b.getD k rdD) < 0→fthV (l.getD i snD).x (l.getD i snD).y (l.getD k snD).x (l.getD k snD).y < 0
 gt:∀ i k,i < l.length→k < l.length→nrA (b.getD i rdD) (b.getD k rdD) > 0→fthV (l.getD i snD).x (l.getD i snD).y (l.getD k snD).x (l.getD k snD).y > 0
theorem nfF_eq {α:Type} {l:List SnI} {b:List RdI} (hl:l.length≤16) (hb:b.length=l.length) (H:NfOk l b) (R:Option (LRes (Int × Unit) α)) {i k:Nat} (hi:i < l.length) (hk:k < l.length):nfF (α:=α) l b R (i:Int) ((k:Int),())=some (.cont (((k + 1:Nat):Int),())):=by
 have hmx:l.length≤maxLen:=by have:maxLen=9223372036854775807:=rfl; omega
 have e1:=H.e1 i k hi hk
 have e2:=H.e2 i k hi hk
 have e3:=H.lt i k hi hk
 have e4:=H.gt i k hi hk
 unfold nfF
 simp only []
 rw [lt_len hk,cond_true,hb,if_pos (in_len hi),if_pos (in_len hk),if_pos (in_len hi),if_pos (in_len hk),rdE_at,rdE_at,wrap_next hk hmx]
 show (bif nrE (b.getD i rdD) (b.getD k rdD) != 0 then finL R else bif fthE (l.getD i snD).x (l.getD i snD).y (l.getD k snD).x (l.getD k snD).y != 0 then finL R else
  bif decide (nrA (b.getD i rdD) (b.getD k rdD) < 0) then bif decide (fthV (l.getD i snD).x (l.getD i snD).y (l.getD k snD).x (l.getD k snD).y ≥ 0) then finL R else
   bif decide (nrA (b.getD i rdD) (b.getD k rdD) > 0) then bif decide (fthV (l.getD i snD).x (l.getD i snD).y (l.getD k snD).x (l.getD k snD).y≤0) then finL R else _ else _ else
   bif decide (nrA (b.getD i rdD) (b.getD k rdD) > 0) then bif decide (fthV (l.getD i snD).x (l.getD i snD).y (l.getD k snD).x (l.getD k snD).y≤0) then finL R else _ else _)=_
 rw [e1,e2,show ((0:Int) != 0)=false from rfl,cond_false,cond_false]
 by_cases h1:nrA (b.getD i rdD) (b.getD k rdD) < 0
 ·rw [decide_eq_true h1,decide_eq_false (show ¬ nrA (b.getD i rdD) (b.getD k rdD) > 0 by omega),decide_eq_false (show ¬ fthV (l.getD i snD).x (l.getD i snD).y (l.getD k snD).x (l.getD k snD).y ≥ 0 by have:=e3 h1; omega)]
  rfl
 ·rw [decide_eq_false h1]
  by_cases h2:nrA (b.getD i rdD) (b.getD k rdD) > 0
  ·rw [decide_eq_true h2,decide_eq_false (show ¬ fthV (l.getD i snD).x (l.getD i snD).y (l.getD k snD).x (l.getD k snD).y≤0 by have:=e4 h2; omega)]
   rfl
  ·rw [decide_eq_false h2]; rfl
theorem nf_run {α:Type} {l:List SnI} {b:List RdI} (hl:l.length≤16) (hb:b.length=l.length) (H:NfOk l b) (R:Option α) (K:Nat→Int × Unit→Option α):afterL (iterL 20 (nfG 20 l b R) (0,())) K=K 2 ((l.length:Int),()):=by
 have hmx:l.length≤maxLen:=by have:maxLen=9223372036854775807:=rfl; omega
 refine count_loop (f:=nfG 20 l b R) (fun i=>((i:Int),())) l.length (fun i hi=>?_) (y:=((l.length:Int),())) (b:=2) ?_ (by omega)
 ·unfold nfG
  simp only []
  rw [lt_len hi,cond_true,wrap_next hi hmx]
  refine (count_loop (f:=nfF l b (finL R) (i:Int)) (fun k=>((k:Int),())) l.length (fun k hk=>nfF_eq hl hb H (finL R) hi hk) (y:=((l.length:Int),())) (b:=4) ?_ (by omega)).trans rfl
  unfold nfF
  simp only [not_lt_len,cond_false]
 ·unfold nfG
  simp only [not_lt_len,cond_false]
/-! All of it. -/
theorem tr_bds {l:List SnI} (h:snsB l=true) {a b:Int} {p:List Int} (hb:(List.range l.length).any (trBad l a b p)=false) :
  bdsE l (trN l a b p l.length)=0∧∀ k,k < l.length→((bndM l.length (trN l a b p l.length)).getD k rdD).lo≤(exE l (k:Int)).lo∧(exE l (k:Int)).hi≤((bndM l.length (trN l a b p l.length)).getD k rdD).hi:=by
 have hl:=(snsB_at h).1
 have mem:∀ r∈trN l a b p l.length,∃ k,k < l.length∧trR l a b p k=r:=fun r hr=>by
  unfold trN at hr
  obtain ⟨k,hk,e⟩:=List.mem_map.1 hr
  exact ⟨k,List.mem_range.1 hk,e⟩
 have ex:∀ k,k < l.length→0≤(exE l (k:Int)).lo∧(exE l (k:Int)).lo≤(exE l (k:Int)).hi∧(exE l (k:Int)).hi≤70368744177664:=fun k hk=>by
  obtain ⟨hx,hy⟩:=sn_in h hk
  obtain ⟨d1,d2,d3,_,_,d6,d7⟩:=dn_up hx hy
  rw [ex_at]
  show 0≤lenV _ _ 1∧lenV _ _ 1≤lenV _ _ 2∧lenV _ _ 2≤_
  rw [d1,d2]
  exact ⟨d3,d6,d7⟩
 have lo:∀ k,k < l.length→bLo (trN l a b p l.length) k≤(exE l (k:Int)).lo:=fun k hk=>bLo_le k _ (ex k hk).1 _ fun r hr e=>by
  obtain ⟨j,hj,rfl⟩:=mem r hr
  obtain ⟨g1,_,g3,_,_⟩:=tr_good h hb hj
  rw [g1] at e
  have:j=k:=by omega
  subst this
  exact g3
 have hi:∀ k,k < l.length→(exE l (k:Int)).hi≤bHi (trN l a b p l.length) k:=fun k hk=>le_bHi k _ (ex k hk).2.2 _ fun r hr e=>by
  obtain ⟨j,hj,rfl⟩:=mem r hr
  obtain ⟨g1,_,_,g4,_⟩:=tr_good h hb hj
  rw [g1] at e
  have:j=k:=by omega
  subst this
  exact g4
 constructor
 ·unfold bdsE
  rw [decide_eq_true (show (trN l a b p l.length).length≤256 by rw [trN_len]; omega),cond_true,h,cond_true]
  unfold bndE
  have n1:nB (l.length:Int)=true:=by unfold nB; rw [decide_eq_true (by omega),decide_eq_true (by omega)]; rfl
  have n2:rdsB (l.length:Int) (trN l a b p l.length)=true:=by
   unfold rdsB
   rw [Bool.not_eq_true',List.any_eq_false]
   intro r hr
   obtain ⟨j,hj,rfl⟩:=mem r hr
   obtain ⟨g1,g2,g3,g4,g5⟩:=tr_good h hb hj
   have:=ex j hj
   have:rgtR (l.length:Int) (trR l a b p j)=true:=by
    unfold rgtR
    simp only [Bool.and_eq_true,decide_eq_true_eq]
    rw [g1]
    exact ⟨⟨by omega,by omega⟩,g2,by show (trR l a b p j).lo≤(trR l a b p j).hi; omega,g5⟩
   rw [this]; exact Bool.noConfusion
  have n3:bndC l.length (trN l a b p l.length)=false:=by
   unfold bndC
   rw [List.any_eq_false]
   intro k hk
   have hk':=List.mem_range.1 hk
   have h1:=lo k hk'
   have h2:=hi k hk'
   have h3:=ex k hk'
   rw [decide_eq_true_eq]
   omega
  rw [decide_eq_true (show (trN l a b p l.length).length≤256 by rw [trN_len]; omega),n1,n2,Int.toNat_natCast,n3]
  rfl
 ·intro k hk
  rw [bndM_get _ _ hk]
  exact ⟨lo k hk,hi k hk⟩
theorem tr_nf {l:List SnI} (h:snsB l=true) {a b:Int} {p:List Int} (hb:(List.range l.length).any (trBad l a b p)=false):NfOk l (bndM l.length (trN l a b p l.length)):=by
 obtain ⟨hE,hB⟩:=tr_bds h hb
 obtain ⟨_,_,_,_,hg,_⟩:=no_err hE
 have hfar:∀ i,i < l.length→∀ k,k < l.length→fthB (l.getD i snD).x (l.getD i snD).y (l.getD k snD).x (l.getD k snD).y=true:=fun i hi k hk=>by
  obtain ⟨x1,y1⟩:=sn_in h hi
  obtain ⟨x2,y2⟩:=sn_in h hk
  unfold fthB
  rw [ok_iff.2 ⟨by omega,by omega⟩,ok_iff.2 ⟨by omega,by omega⟩,ok_iff.2 ⟨by omega,by omega⟩,ok_iff.2 ⟨by omega,by omega⟩]
  rfl
 have hA:∀ i,i < l.length→∀ k,k < l.length→nrA ((bndM l.length (trN l a b p l.length)).getD i rdD) ((bndM l.length (trN l a b p l.length)).getD k rdD)=nrR ((bndM l.length (trN l a b p l.length)).getD i rdD) ((bndM l.length (trN l a b p l.length)).getD k rdD):=fun i hi k hk=>by
  unfold nrA
  rw [hg i (by rw [bndM_len]; exact hi),hg k (by rw [bndM_len]; exact hk)]; rfl
 have key:∀ i,i < l.length→∀ k,k < l.length→((bndM l.length (trN l a b p l.length)).getD i rdD).hi < ((bndM l.length (trN l a b p l.length)).getD k rdD).lo→sq2 (l.getD i snD).x (l.getD i snD).y < sq2 (l.getD k snD).x (l.getD k snD).y:=fun i hi k hk hlt=>by
  obtain ⟨x1,y1⟩:=sn_in h hi
  obtain ⟨x2,y2⟩:=sn_in h hk
  obtain ⟨_,u2,u3,_,u5,u6,_⟩:=dn_up x1 y1
  obtain ⟨v1,_,_,v4,_,_,_⟩:=dn_up x2 y2
  have b1:=(hB i hi).2
  have b2:=(hB k hk).1
  rw [ex_at] at b1 b2
  have b1':lenV (l.getD i snD).x (l.getD i snD).y 2≤_:=b1
  have b2':_≤lenV (l.getD k snD).x (l.getD k snD).y 1:=b2
  rw [u2] at b1'
  rw [v1] at b2'
  exact sq_lt u5 v4 (by omega) (by omega)
 refine ⟨fun i k hi hk=>?_,fun i k hi hk=>?_,fun i k hi hk hn=>?_,fun i k hi hk hn=>?_⟩
 ·unfold nrE
  rw [hg i (by rw [bndM_len]; exact hi),hg k (by rw [bndM_len]; exact hk)]; rfl
 ·unfold fthE
  rw [hfar i hi k hk]; rfl
 ·rw [hA i hi k hk] at hn
  unfold fthV cmp3
  rw [hfar i hi k hk,cond_true]
  by_cases hlt:((bndM l.length (trN l a b p l.length)).getD i rdD).hi < ((bndM l.length (trN l a b p l.length)).getD k rdD).lo
  ·rw [if_pos (key i hi k hk hlt)]; decide
  ·unfold nrR at hn
   rw [decide_eq_false hlt,cond_false] at hn
   revert hn
   cases decide (((bndM l.length (trN l a b p l.length)).getD k rdD).hi < ((bndM l.length (trN l a b p l.length)).getD i rdD).lo)<;>exact fun hn=>absurd hn (by decide)
 ·rw [hA i hi k hk] at hn
  unfold fthV cmp3
  rw [hfar i hi k hk,cond_true]
  by_cases hlt:((bndM l.length (trN l a b p l.length)).getD k rdD).hi < ((bndM l.length (trN l a b p l.length)).getD i rdD).lo
  ·have:=key k hk i hi hlt
   rw [if_neg (by omega),if_pos this]; decide
  ·unfold nrR at hn
   rw [decide_eq_false hlt] at hn
   revert hn
   cases decide (((bndM l.length (trN l a b p l.length)).getD i rdD).hi < ((bndM l.length (trN l a b p l.length)).getD k rdD).lo)<;>exact fun hn=>absurd hn (by decide)
noncomputable def fsTt0:FuncId→Option Fsp:=fun g=>
 if g=25 then some frootCS else
 fsC4 g
theorem fsTt0_ok:FsOk fsTt0:=
 fs_cons frootCS_ok <|
 fsC4_ok
theorem ttsnd_text (α:Type) (k:AOut→Option α):evFn real tab ((twY fsTt0 spL).env real tab 8 8) 8 Tryz.f7 α [] k=k (b1 true):=by kernel_rfl
noncomputable def ttsndS:Fsp:=fun _ args k=>match args with
 | []=>k (b1 true)
 | _=>none
theorem ttsndS_ok:FspOk Tryz.prog 7 ttsndS:=tower_Y fsTt0_ok spL_ok ⟨Tryz.func7,fun _ _=>by kernel_rfl⟩ (by intro α args k; unfold ttsndS; split<;>rfl) fun args out hSm hEq=>by
 unfold ttsndS at hEq
 split at hEq
 ·exact ⟨8,8,(ttsnd_text AOut some).trans hEq⟩
 ·cases hEq
noncomputable def fsTt:FuncId→Option Fsp:=fun g=>
 if g=7 then some ttsndS else
 if g=8 then some cshotTS else
 if g=9 then some cstnS else
 if g=10 then some exS else
 if g=11 then some mrdS else
 if g=12 then some mNrT else
 if g=13 then some fthS else
 if g=14 then some mptS else
 fsM0 g
theorem fsTt_ok:FsOk fsTt:=
 fs_cons ttsndS_ok <|
 fs_cons cshotTS_ok <|
 fs_cons cstnS_ok <|
 fs_cons mexS_ok <|
 fs_cons mrdS_ok <|
 fs_cons (mNrT_eq ▸ mNrS_ok) <|
 fs_cons fthS_ok <|
 fs_cons mptS_ok <|
 fsM0_ok
def ngF {α:Type} (l:List SnI) (b:List RdI) (R:Option (LRes (Int × Unit) α)) (i:Int) (x:Int × Unit):Option (LRes (Int × Unit) (LRes (Int × Unit) α)):=
 bif decide (x.1 < (b.length:Int)) then
  if 0≤i∧i < (b.length:Int) then if 0≤x.1∧x.1 < (b.length:Int) then if 0≤i∧i < (l.length:Int) then if 0≤x.1∧x.1 < (l.length:Int) then
   bif nrE (rdE b i) (rdE b x.1) != 0 then finL R else
   bif fthE (stE l i).2.2.1.1 (stE l i).2.2.1.2.1 (stE l x.1).2.2.1.1 (stE l x.1).2.2.1.2.1 != 0 then finL R else
   let D:=bif decide (nrA (rdE b i) (rdE b x.1) > 0) then bif decide (fthV (stE l i).2.2.1.1 (stE l i).2.2.1.2.1 (stE l x.1).2.2.1.1 (stE l x.1).2.2.1.2.1≤0) then finL R else some (.cont (IntKind.i64.wrap (x.1 + 1),())) else some (.cont (IntKind.i64.wrap (x.1 + 1),()))
   bif decide (nrA (rdE b i) (rdE b x.1) < 0) then bif decide (fthV (stE l i).2.2.1.1 (stE l i).2.2.1.2.1 (stE l x.1).2.2.1.1 (stE l x.1).2.2.1.2.1 ≥ 0) then finL R else D else D
  else none else none else none else none
 else some (.brk 4 (x.1,()))
def ngG {α:Type} (N:Nat) (l:List SnI) (b:List RdI) (R:Option α) (x:Int × Unit):Option (LRes (Int × Unit) α):=
 bif decide (x.1 < (b.length:Int)) then
  afterL (iterL N (ngF l b (finL R) x.1) (0,())) fun id _=>if id=4 then some (.cont (IntKind.i64.wrap (x.1 + 1),())) else none
 else some (.brk 2 (x.1,()))
theorem ngG_eq {α:Type} (N:Nat) (l:List SnI) (b:List RdI) (hb:b.length=l.length) (R:Option α):ngG N l b R=nfG N l b R:=by
 have e:∀ (R:Option (LRes (Int × Unit) α)) i,ngF l b R i=nfF l b R i:=fun R i=>by
  funext x
  unfold ngF nfF
  rw [hb]
 funext x
 unfold ngG nfG
 rw [hb,e]
noncomputable def ttE {α:Type} (st:List SnI) (r:List RdI) (k:AOut→Option α):Option α:=
 bif bdsE st r==0 then bif bdsE st (exL st)==0 then
  bif !mptB st r then k (b1 true) else bif mptB st (exL st) then
   bif (ptS st r).1==(ptS st (exL st)).1&&((ptS st r).2.1==(ptS st (exL st)).2.1&&true) then k (b1 true) else k (b1 false)
  else k (b1 false)
 else k (b1 false) else k (b1 false)
noncomputable def ttM {α:Type} (N:Nat) (st:List SnI) (a c:Int) (p:List Int) (k:AOut→Option α):Option α:=
 bif snsE st != 0 then k (b1 false) else
 afterL (iterL N (trL st a c p (k (b1 true))) ([],0,())) fun id y=>if id=0 then
  afterL (iterL N (ngG N st y.1 (k (b1 false))) (0,())) fun id _=>if id=2 then ttE st y.1 k else none
 else none
noncomputable def ttH {α:Type} (N:Nat) (C:Bool) (o:ShO) (a c:Int) (p:List Int) (k:AOut→Option α):Option α:=
 bif cshZ C o != 0 then (bif ((cshL C o).length:Int)==0 then k (b1 true) else k (b1 false)) else
 bif sceE (cshL C o) != 0 then k (b1 false) else ttM N (selX (sceB (cshL C o)) (stnL (cshL C o))) a c p k
set_option maxRecDepth 100000 in
theorem ttl_text (N n0:Nat) (α:Type) (cx cy sd w h:Int) (pb po:List Int) (fl ke sw be we:Int) (b:List BrI) (wh el:Int) (l:List BdI) (m a c:Int) (p:List Int) (k:AOut→Option α):evFn real tab ((twY fsTt spM0).env real tab N (n0 + 8)) N Tryz.f3 α [.agg [.int .i64 cx,.int .i64 cy,.int .i64 sd,.int .i64 w,.int .i64 h,.ro (.int .i64) pb,.ro (.int .i64) po,.int .i64 fl,.int .i64 ke,.int .i64 sw,.int .i64 be,.int .i64 we,.ro (.recd (.cons (.int .i64) (.cons (.int .i64) (.cons (.int .i64) .nil)))) b,.int .i64 wh,.int .i64 el],.ro (.recd (.cons (.int .i64) (.cons (.int .i64) (.cons (.recd (.cons (.recd (.cons (.int .i64) (.cons (.int .i64) .nil))) (.cons (.recd (.cons (.int .i64) (.cons (.int .i64) .nil))) (.cons (.int .i64) .nil)))) (.cons .bool .nil))))) l,.int .u8 m,.agg [.int .i64 a,.int .i64 c],.ro (.int .i16) p] k =
 bif decide ((pb.length:Int) > 100) then k (b1 true) else bif decide ((po.length:Int) > 100) then k (b1 true) else bif decide ((b.length:Int) > 66) then k (b1 true) else bif
 decide ((l.length:Int) > 8) then k (b1 true) else bif decide ((p.length:Int) > 100) then k (b1 true) else ttH N (cshB cx cy sd w h pb po fl ke sw be we l b wh el
 ((IntKind.i64.wrap m).tmod 61)) (shP (tkV5 cx cy sd w h pb po fl ke sw be we b wh el) ((IntKind.i64.wrap m).tmod 61).toNat 0 l []) a c p k:=by kernel_rfl
theorem range_get (n:Nat) (f:Nat→Int) {k:Nat} (h:k < n):((List.range n).map f).getD k 0=f k:=by
 rw [List.getD_eq_getElem?_getD,List.getElem?_map,List.getElem?_range h]; rfl
theorem count_step (p q:Nat→Bool) (j:Nat) (h:∀ k,k≠j→p k=true→q k=true):∀ n,(List.range n).countP p≤(List.range n).countP q + (if j < n then 1 else 0)
 | 0=>Nat.zero_le _
 | n + 1=>by
   have ih:=count_step p q j h n
   rw [List.range_succ,List.countP_append,List.countP_append,List.countP_singleton,List.countP_singleton]
   by_cases e:n=j
   ·subst e
    rw [if_neg (Nat.lt_irrefl n)] at ih
    rw [if_pos (Nat.lt_succ_self n)]
    have:(if p n=true then 1 else 0)≤1:=by split<;>omega
    omega
   ·have hn:(if p n=true then 1 else 0)≤(if q n=true then 1 else 0):=by
     by_cases hp:p n=true
     ·rw [if_pos hp,if_pos (h n e hp)]; exact Nat.le_refl 1
     ·rw [if_neg hp]; exact Nat.zero_le _
    have hj:(if j < n then 1 else 0)≤(if j < n + 1 then 1 else 0):=by split<;>split<;>omega
    omega
theorem between (c:Nat→Nat) (hs:∀ j,c (j + 1)≤c j + 1) (n:Nat) (h0:c 0≤n):∀ N,n≤c N→∃ j,c j=n
 | 0,h=>⟨0,by omega⟩
 | N + 1,h=>by
   by_cases hn:n≤c N
   ·exact between c hs n h0 N hn
   ·exact ⟨N + 1,by have:=hs N; omega⟩
theorem dsM_is {l:List SnI} {d:List Int} {t m:Int} (hm:m≤129368065) (h1:∀ k,k < l.length→(l.getD k snD).1=t→m≤d.getD k 0) (h2:m=129368065∨∃ k,k < l.length∧(l.getD k snD).1=t∧d.getD k 0=m):dsM l d t l.length=m:=by
 obtain ⟨g1,g2,g3⟩:=dsM_le l d t l.length
 have a1:m≤dsM l d t l.length:=by
  rcases g3 with e | ⟨k,k1,k2,k3⟩
  ·omega
  ·have:=h1 k k1 k2; omega
 have a2:dsM l d t l.length≤m:=by
  rcases h2 with e | ⟨k,k1,k2,k3⟩
  ·omega
  ·have:=g2 k k1 k2; omega
 omega
theorem lims_cases {s o:List RdI} {L:Int} (h:L∈lims s o):(awB o=true∧L=129368064)∨(minLo o≤L + 1∧L + 1≤minHi o):=by
 unfold lims at h
 rcases List.mem_append.1 h with h | h
 ·cases ha:awB o
  ·rw [ha] at h; exact absurd h List.not_mem_nil
  ·rw [ha] at h; exact .inl ⟨rfl,List.mem_singleton.1 h⟩
 ·right
  by_cases hm:minLo o≤minHi o
  ·rw [decide_eq_true hm,cond_true] at h
   rcases List.mem_cons.1 h with rfl | h
   ·omega
   ·obtain ⟨r,_,hr⟩:=List.mem_flatMap.1 h
    unfold limR at hr
    have:=(List.mem_filter.1 hr).2
    rw [Bool.and_eq_true,decide_eq_true_eq,decide_eq_true_eq] at this
    omega
  ·rw [decide_eq_false hm] at h; exact absurd h List.not_mem_nil
theorem minLo_at {l:List SnI} {b:List RdI} {t X:Int} (h1:minLo (tmL l b t)≤X) (h2:X≤129368064):∃ k,k < l.length∧(l.getD k snD).1=t∧(b.getD k rdD).lo≤X:=by
 obtain ⟨g1,g2,g3⟩:=foldl_min (fun r=>r.lo) (tmL l b t) 129368065
 rcases g3 with e | ⟨r,hr,e⟩
 ·have:minLo (tmL l b t)=129368065:=e
  omega
 ·obtain ⟨k,k1,k2,rfl⟩:=tmL_mem.1 hr
  have:minLo (tmL l b t)=(b.getD k rdD).lo:=e
  exact ⟨k,k1,k2,by omega⟩
theorem le_hi {l:List SnI} {b:List RdI} {t:Int} {k:Nat} (hk:k < l.length) (ht:(l.getD k snD).1=t):minHi (tmL l b t)≤(b.getD k rdD).hi:=(foldl_min (fun r=>r.hi) (tmL l b t) 129368064).2.1 _ (tmL_mem.2 ⟨k,hk,ht,rfl⟩)
theorem minHi_le (l:List RdI):minHi l≤129368064:=(foldl_min (fun r=>r.hi) l 129368064).1
theorem away_hi {l:List SnI} {b:List RdI} {t:Int} {k:Nat} (ha:awB (tmL l b t)=true) (hk:k < l.length) (ht:(l.getD k snD).1=t):129368065≤(b.getD k rdD).hi:=by
 unfold awB at ha
 rw [Bool.not_eq_true',List.any_eq_false] at ha
 have:=ha _ (tmL_mem.2 ⟨k,hk,ht,rfl⟩)
 rw [decide_eq_true_eq] at this
 omega
theorem team_of {l:List SnI} {b:List RdI} (hb:∀ k,k < l.length→(b.getD k rdD).lo≤(b.getD k rdD).hi) {t o:Int} (hto:t≠o) {L:Int} (hL:L∈lims (tmL l b t) (tmL l b o)) {n:Nat} (h1:max 1 (mustN (tmL l b t) L)≤n) (h2:n≤canN (tmL l b t) L) :
  ∃ d:List Int,d.length=l.length∧dIn l b d∧dsM l d o l.length=L + 1∧dsM l d t l.length < L + 1∧dsC l d t (L + 1) l.length=n:=by
 have hc:=lims_cases hL
 -- how many are counted
 let c:Nat→Nat:=fun j=>(List.range l.length).countP fun k=>(l.getD k snD).1==t&&decide ((if k < j then (b.getD k rdD).lo else (b.getD k rdD).hi)≤L)
 have c0:c 0=mustN (tmL l b t) L:=by
  rw [must_tm]
  refine List.countP_congr fun k _=>?_
  rw [if_neg (Nat.not_lt_zero k)]
 have cN:c l.length=canN (tmL l b t) L:=by
  rw [can_tm]
  refine List.countP_congr fun k hk=>?_
  rw [if_pos (List.mem_range.1 hk)]
 have cs:∀ j,c (j + 1)≤c j + 1:=fun j=>by
  refine Nat.le_trans (count_step _ (fun k=>(l.getD k snD).1==t&&decide ((if k < j then (b.getD k rdD).lo else (b.getD k rdD).hi)≤L)) j (fun k hk hp=>?_) l.length) (Nat.add_le_add_left (by split<;>omega) _)
  rw [Bool.and_eq_true,decide_eq_true_eq] at hp ⊢
  refine ⟨hp.1,?_⟩
  have:=hp.2
  by_cases hkj:k < j
  ·rw [if_pos (by omega)] at this; rw [if_pos hkj]; exact this
  ·rw [if_neg (by omega)] at this; rw [if_neg hkj]; exact this
 obtain ⟨j,hj⟩:=between c cs n (by omega) l.length (by omega)
 let fo:Nat→Int:=fun k=>if awB (tmL l b o)=true∧L=129368064 then (b.getD k rdD).hi else max (b.getD k rdD).lo (L + 1)
 let f:Nat→Int:=fun k=>if (l.getD k snD).1=o then fo k else if k < j then (b.getD k rdD).lo else (b.getD k rdD).hi
 have fget:∀ k,k < l.length→((List.range l.length).map f).getD k 0=f k:=fun k hk=>range_get _ f hk
 have fo_eq:∀ k,(l.getD k snD).1=o→f k=fo k:=fun k hk=>if_pos hk
 have ft_eq:∀ k,(l.getD k snD).1=t→f k=if k < j then (b.getD k rdD).lo else (b.getD k rdD).hi:=fun k hk=>if_neg (by rw [hk]; exact hto)
 have hLc:L + 1≤129368065:=by
  rcases hc with ⟨_,e⟩ | ⟨_,e⟩
  ·omega
  ·have:=minHi_le (tmL l b o); omega
 have hin:dIn l b ((List.range l.length).map f):=fun k hk=>by
  rw [fget k hk]
  have hlo:=hb k hk
  by_cases hko:(l.getD k snD).1=o
  ·rw [fo_eq k hko]
   show _≤(if awB (tmL l b o)=true∧L=129368064 then (b.getD k rdD).hi else max (b.getD k rdD).lo (L + 1))∧(if awB (tmL l b o)=true∧L=129368064 then (b.getD k rdD).hi else max (b.getD k rdD).lo (L + 1))≤_
   by_cases ha:awB (tmL l b o)=true∧L=129368064
   ·rw [if_pos ha]; omega
   ·rw [if_neg ha]
    rcases hc with hc | ⟨_,e⟩
    ·exact absurd hc ha
    ·have:=le_hi (b:=b) hk hko; omega
  ·have:f k=if k < j then (b.getD k rdD).lo else (b.getD k rdD).hi:=if_neg hko
   rw [this]
   split<;>omega
 have mo:dsM l ((List.range l.length).map f) o l.length=L + 1:=by
  refine dsM_is hLc (fun k hk hko=>?_) ?_
  ·rw [fget k hk,fo_eq k hko]
   show _≤(if awB (tmL l b o)=true∧L=129368064 then (b.getD k rdD).hi else max (b.getD k rdD).lo (L + 1))
   by_cases ha:awB (tmL l b o)=true∧L=129368064
   ·rw [if_pos ha]
    have:=away_hi ha.1 hk hko
    omega
   ·rw [if_neg ha]; omega
  ·by_cases ha:awB (tmL l b o)=true∧L=129368064
   ·left; omega
   ·right
    rcases hc with hc | ⟨e1,e2⟩
    ·exact absurd hc ha
    ·obtain ⟨k,k1,k2,k3⟩:=minLo_at e1 (by have:=minHi_le (tmL l b o); omega)
     refine ⟨k,k1,k2,?_⟩
     rw [fget k k1,fo_eq k k2]
     show (if awB (tmL l b o)=true∧L=129368064 then (b.getD k rdD).hi else max (b.getD k rdD).lo (L + 1))=_
     rw [if_neg ha]; omega
 have ct:dsC l ((List.range l.length).map f) t (L + 1) l.length=n:=by
  rw [← hj]
  unfold dsC
  refine List.countP_congr fun k hk=>?_
  rw [Bool.and_eq_true,Bool.and_eq_true,decide_eq_true_eq,decide_eq_true_eq,beq_iff_eq]
  refine and_congr_right fun ht=>?_
  rw [fget k (List.mem_range.1 hk),ft_eq k ht]
  omega
 refine ⟨(List.range l.length).map f,by rw [List.length_map,List.length_range],hin,mo,?_,ct⟩
 -- a stone is counted
 have hp:0 < dsC l ((List.range l.length).map f) t (L + 1) l.length:=by omega
 unfold dsC at hp
 obtain ⟨k,hk,hp⟩:=List.countP_pos_iff.1 hp
 rw [Bool.and_eq_true,decide_eq_true_eq,beq_iff_eq] at hp
 have:=(dsM_le l ((List.range l.length).map f) t l.length).2.1 k (List.mem_range.1 hk) hp.1
 omega
theorem score_of {l:List SnI} {b:List RdI} (hb:∀ k,k < l.length→(b.getD k rdD).lo≤(b.getD k rdD).hi) (hl:l.length≤16) {q:ScI} (hq:q∈scL (tmL l b 0) (tmL l b 1)):∃ d:List Int,d.length=l.length∧dIn l b d∧dsS l d=q:=by
 unfold scL at hq
 rcases List.mem_append.1 hq with hq | hq
 ·cases ht:tieB (tmL l b 0) (tmL l b 1)
  ·rw [ht] at hq; exact absurd hq List.not_mem_nil
  ·rw [ht] at hq
   rw [List.mem_singleton.1 hq]
   have tie:∀ d:List Int,dsM l d 0 l.length=dsM l d 1 l.length→dsS l d=(-1,0,()):=fun d e=>by
    unfold dsS
    rw [e]
    have:(dsM l d 1 l.length==dsM l d 1 l.length)=true:=by simp
    rw [this]; rfl
   unfold tieB at ht
   rw [Bool.or_eq_true,Bool.and_eq_true,decide_eq_true_eq] at ht
   rcases ht with ⟨a0,a1⟩ | hm
   ·refine ⟨(List.range l.length).map fun k=>(b.getD k rdD).hi,by rw [List.length_map,List.length_range],fun k hk=>by rw [range_get _ _ hk]; exact ⟨hb k hk,Int.le_refl _⟩,tie _ ?_⟩
    rw [dsM_is (m:=129368065) (Int.le_refl _) (fun k hk h=>by rw [range_get _ _ hk]; exact away_hi a0 hk h) (.inl rfl),dsM_is (m:=129368065) (Int.le_refl _) (fun k hk h=>by rw [range_get _ _ hk]; exact away_hi a1 hk h) (.inl rfl)]
   ·have hX:∃ X:Int,X=max (minLo (tmL l b 0)) (minLo (tmL l b 1)):=⟨_,rfl⟩
    obtain ⟨X,hX⟩:=hX
    have b0:=minHi_le (tmL l b 0)
    have b1:=minHi_le (tmL l b 1)
    -- each distance: as near to X as it can be from above
    let f:Nat→Int:=fun k=>if (l.getD k snD).1=0∨(l.getD k snD).1=1 then max (b.getD k rdD).lo X else (b.getD k rdD).lo
    have fget:∀ k,k < l.length→((List.range l.length).map f).getD k 0=f k:=fun k hk=>range_get _ f hk
    have ms:∀ t:Int,(t=0∨t=1)→minLo (tmL l b t)≤X→X≤minHi (tmL l b t)→dsM l ((List.range l.length).map f) t l.length=X:=fun t ht hl1 hl2=>by
     have h3:=minHi_le (tmL l b t)
     have fe:∀ k,(l.getD k snD).1=t→f k=max (b.getD k rdD).lo X:=fun k hk=>if_pos (by rw [hk]; exact ht)
     refine dsM_is (by omega) (fun k hk h=>by rw [fget k hk,fe k h]; omega) (.inr ?_)
     obtain ⟨k,k1,k2,k3⟩:=minLo_at hl1 (by omega)
     exact ⟨k,k1,k2,by rw [fget k k1,fe k k2]; omega⟩
    refine ⟨(List.range l.length).map f,by rw [List.length_map,List.length_range],fun k hk=>?_,tie _ ?_⟩
    ·rw [fget k hk]
     have hlo:=hb k hk
     show _≤(if (l.getD k snD).1=0∨(l.getD k snD).1=1 then max (b.getD k rdD).lo X else (b.getD k rdD).lo)∧(if (l.getD k snD).1=0∨(l.getD k snD).1=1 then max (b.getD k rdD).lo X else (b.getD k rdD).lo)≤_
     split
     ·rename_i h
      rcases h with h | h
      ·have:=le_hi (b:=b) hk h; omega
      ·have:=le_hi (b:=b) hk h; omega
     ·omega
    ·rw [ms 0 (.inl rfl) (by omega) (by omega),ms 1 (.inr rfl) (by omega) (by omega)]
 ·have h16:∀ t,(tmL l b t).length≤16:=fun t=>Nat.le_trans (tmN_len _ _ _ _) hl
  rcases List.mem_append.1 hq with hq | hq
  ·obtain ⟨L,hL,n,h1,h2,rfl⟩:=(scT_mem _ _ 0 (h16 0) _).2 hq
   obtain ⟨d,d1,d2,d3,d4,d5⟩:=team_of hb (t:=0) (o:=1) (by decide) hL h1 h2
   refine ⟨d,d1,d2,?_⟩
   unfold dsS
   have e1:(dsM l d 0 l.length==dsM l d 1 l.length)=false:=by
    rw [beq_eq_false_iff_ne]; omega
   rw [e1,cond_false,decide_eq_false (show ¬ dsM l d 1 l.length < dsM l d 0 l.length by omega),cond_false,d3,d5]
  ·obtain ⟨L,hL,n,h1,h2,rfl⟩:=(scT_mem _ _ 1 (h16 1) _).2 hq
   obtain ⟨d,d1,d2,d3,d4,d5⟩:=team_of hb (t:=1) (o:=0) (by decide) hL h1 h2
   refine ⟨d,d1,d2,?_⟩
   unfold dsS
   have e1:(dsM l d 0 l.length==dsM l d 1 l.length)=false:=by
    rw [beq_eq_false_iff_ne]; omega
   rw [e1,cond_false,decide_eq_true (show dsM l d 1 l.length < dsM l d 0 l.length by omega),cond_true,d3,d5]
end Go.Proofs.YtenolfpkkgcgcaaGreat
