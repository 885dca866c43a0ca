/- Parts of the proof, in build order. -/
import Derived.Test.YtneedmplkodcjaaGreatM5
import Derived.ProofKit
import Derived.Test.YtneedmplkodcjaaGreatChecked
import Derived.Test.YtneedmplkodcjaaGreatM6
import Derived.Test.YtneedmplkodcjaaGreatM7
namespace Go.Proofs.YtneedmplkodcjaaGreat
open Go.RowKit
mutual
def fitB (P:Program):Sh→TypeId→Bool
 |.int k,t=>
  match P.underlying t with
  |some (.int j)=>decide (j=k)
  |_=>false
 |.bool,t=>
  match P.underlying t with
  |some .bool=>true
  |_=>false
 |.str,t=>
  match P.underlying t with
  |some .string=>true
  |_=>false
 |.recd fs,t=>
  match P.underlying t with
  |some (.struct l)=>decide (P.cellsOf t=fs.size)&&fitsB P fs l.toList 0
  |some (.array n u)=>decide (P.cellsOf t=fs.size)&&fitsA P fs u n
  |_=>false
 |.sl e,t=>
  match P.underlying t with
  |some (.slice u)=>decide (P.cellsOf u=e.size)&&decide (0<e.size)&&fitB P e u
  |_=>false
 |.mp _ _,_=>false
def fitsB (P:Program):Shs→List Field→Nat→Bool
 |.nil,[],_=>true
 |.cons s r,f::q,n=>decide (f.offset=n)&&decide (P.cellsOf f.type=s.size)&&fitB P s f.type&&fitsB P r q (n+s.size)
 |_,_,_=>false
def fitsA (P:Program):Shs→TypeId→Nat→Bool
 |.nil,_,0=>true
 |.cons s r,u,n+1=>decide (P.cellsOf u=s.size)&&fitB P s u&&fitsA P r u n
 |_,_,_=>false
end
mutual
def Wf:(s:Sh)→s.ty→Prop
 |.int k,n=>(Lit.int k n).wf=true
 |.bool,_=>True
 |.str,s=>s.size≤maxLen
 |.recd fs,x=>Wfs fs x
 |.sl e,xs=>List.length (α:=e.ty) xs≤maxLen∧∀x,List.Mem (α:=e.ty) x xs→Wf e x
 |.mp _ _,_=>False
def Wfs:(fs:Shs)→fs.ty→Prop
 |.nil,_=>True
 |.cons s r,x=>Wf s x.1∧Wfs r x.2
end
theorem opened_cells {w:World} {base n:Nat} {a:Addr} {cs:List Value} (h:w.cells? base a n=some cs):cs.length=n∧∀i,i<n→w.cell? (a.add i)=cs[i]?:=by
 unfold World.cells? at h
 split at h
 ·exact⟨by simpa using mapM_some_length h,fun i hi=>mapM_some_get h i i (by simp[hi])⟩
 ·cases h
def gA (w:World):Gh:=⟨fun _=>Go.undef,fun b=>b<w.heap.size⟩
section
variable {P:Program} {H:Type} {enc:TypeId × Value→H} {w:World} {base:Nat} {spare:Nat→Bool} {held:Bool}
def Opens (w:World) (s:Sh) (y:s.ty) (cs:List Value):Prop:=Wf s y∧cs.length=s.size∧∀(j:Nat) c v,(s.cells y)[j]?=some c→cs[j]?=some v→Rep [] (gA w) w c v
theorem open_row {e:Sh} {a:Addr} {len cap:Nat} (hl:len≤cap) (hm:cap≤maxLen) (h0:0<e.size)
  (each:∀i,i<len→∃cs,w.cells? base (a.add (i*e.size)) e.size=some cs∧∃y:e.ty,Opens w e y cs):∃y:(Sh.sl e).ty,Opens w (.sl e) y [.slice (some a) len cap]:=by
 rcases Nat.eq_zero_or_pos len with hz|hp
 ·subst hz
  refine⟨([]:List e.ty),⟨Nat.zero_le _,fun x hx=>by cases hx⟩,rfl,fun j c v hc hv=>?_⟩
  match j with
  |0=>cases hc; cases hv; exact .ro0 e _ _ hm fun h=>by cases h
  |j+1=>cases hv
 ·obtain⟨b,o,spot⟩:=a
  have hb:b<w.heap.size:=by
   obtain⟨cs,h1,_⟩:=each 0 hp
   have:=World.cells?_block h1 h0
   unfold Addr.add at this
   split at this<;>exact this
  have hspot:spot=none:=by
   obtain⟨cs,h1,y,_,h2,_⟩:=each 0 hp
   obtain⟨hl,hc⟩:=opened_cells h1
   have h3:=hc 0 h0
   rw[List.getElem?_eq_getElem (by omega)] at h3
   simpa[Addr.add] using World.cell?_spot h3
  subst hspot
  have hadd:∀o i,(Addr.mk b o none).add i=⟨b,o+i,none⟩:=fun o i=>Addr.add_lit ..
  let f:Nat→e.ty:=fun i=>if h:i<len then Classical.choose (Classical.choose_spec (each i h)).2 else e.dflt
  have hf:∀i,i<len→∃cs,w.cells? base (Addr.add ⟨b,o,none⟩ (i*e.size)) e.size=some cs∧Opens w e (f i) cs:=fun i hi=>by
   refine⟨Classical.choose (each i hi),(Classical.choose_spec (each i hi)).1,?_⟩
   simp only[f,dif_pos hi]
   exact Classical.choose_spec (Classical.choose_spec (each i hi)).2
  have hget:∀(n:Nat) (x:e.ty),((List.range len).map f)[n]?=some x→n<len∧x=f n:=fun n x hn=>by
   rw[List.getElem?_map] at hn
   rcases Nat.lt_or_ge n len with hlt|hge
   ·rw[List.getElem?_range hlt] at hn; cases hn; exact⟨hlt,rfl⟩
   ·rw[List.getElem?_eq_none (by simpa using hge)] at hn; cases hn
  have hcell:∀(n:Nat) (x:e.ty) (j:Nat) c,((List.range len).map f)[n]?=some x→(e.cells x)[j]?=some c→∃u,w.cell? ⟨b,o+n*e.size+j,none⟩=some u∧Rep [] (gA w) w c u:=fun n x j c hn hc=>by
   obtain⟨hlt,rfl⟩:=hget n x hn
   obtain⟨cs,h1,_,h2,h3⟩:=hf n hlt
   obtain⟨_,h4⟩:=opened_cells h1
   have hj:j<e.size:=by rw[←Sh.cells_size e (f n)]; exact (List.getElem?_eq_some_iff.1 hc).1
   have h5:=h4 j hj
   rw[hadd,hadd] at h5
   have hcs:cs[j]?=some cs[j]:=List.getElem?_eq_getElem (by omega)
   rw[hcs] at h5
   refine⟨_,?_,h3 j c _ hc hcs⟩
   exact h5
  have hlen:((List.range len).map f).length=len:=by simp
  refine⟨(List.range len).map f,⟨by show ((List.range len).map f).length≤_; omega,fun x hx=>?_⟩,rfl,fun j c v hc hv=>?_⟩
  ·obtain⟨n,hn⟩:=List.mem_iff_getElem?.1 (show x∈(List.range len).map f from hx)
   obtain⟨hlt,rfl⟩:=hget n x hn
   obtain⟨cs,_,h2,_⟩:=hf n hlt
   exact h2
  ·match j with
   |0=>
    cases hc; cases hv
    have:=Rep.ro1 (h:=[]) (g:=gA w) (w:=w) e ((List.range len).map f) b o cap (fun n j=>(w.cell? ⟨b,o+n*e.size+j,none⟩).getD Go.undef) (by omega) (by omega) hm hb
     (fun n x j c hn hc=>by obtain⟨u,h1,_⟩:=hcell n x j c hn hc; rw[h1]; rfl)
     (fun n x j c hn hc=>by obtain⟨u,h1,h2⟩:=hcell n x j c hn hc; rw[h1]; exact h2)
    rw[hlen] at this
    exact this
   |j+1=>cases hv
theorem trod_arr {fuel n:Nat} {t u:TypeId} {cs:List Value} {x:DataW H × List MemPlace} (hu:P.underlying t=some (.array n u)) (h:DataW.trod enc P w base spare held fuel t cs=some x) :
  cs.length=P.cellsOf t∧∃m,∀i,i<n→∃y,DataW.trod enc P w base spare held m u ((cs.drop (i*P.cellsOf u)).take (P.cellsOf u))=some y:=by
 cases fuel with
 |zero=>simp[DataW.trod] at h
 |succ m=>
  unfold DataW.trod at h
  rw[hu] at h
  split at h<;>simp_all
  obtain⟨_,xs,hp,_⟩:=h
  refine⟨m,fun i hi=>?_⟩
  have hg:=mapM_some_get hp i i (by simp[hi])
  have hl:=mapM_some_length hp
  simp only[List.length_range] at hl
  rw[List.getElem?_eq_getElem (by omega)] at hg
  generalize xs[i]=p at hg
  exact⟨p.1,p.2,hg⟩
mutual
theorem open_sh:(s:Sh)→∀(t:TypeId) (fuel:Nat) (cs:List Value) (x:DataW H × List MemPlace),fitB P s t=true→DataW.trod enc P w base spare held fuel t cs=some x→∃y:s.ty,Opens w s y cs
 |.int k,t,fuel,cs,x,hf,h=>by
  simp only[fitB] at hf
  split at hf
  ·rename_i j hu
   have:=of_decide_eq_true hf
   subst this
   obtain⟨n,rfl,_,hw⟩:=DataW.trod_int hu h
   refine⟨(n:Int),hw,rfl,fun i c v hc hv=>?_⟩
   match i with
   |0=>cases hc; cases hv; exact .int _ _
   |i+1=>cases hv
  ·cases hf
 |.bool,t,fuel,cs,x,hf,h=>by
  simp only[fitB] at hf
  split at hf
  ·rename_i hu
   obtain⟨b,rfl,_⟩:=DataW.trod_bool hu h
   refine⟨b,trivial,rfl,fun i c v hc hv=>?_⟩
   match i with
   |0=>cases hc; cases hv; exact .bool _
   |i+1=>cases hv
  ·cases hf
 |.str,t,fuel,cs,x,hf,h=>by
  simp only[fitB] at hf
  split at hf
  ·rename_i hu
   obtain⟨b,rfl,_,hl⟩:=DataW.trod_string hu h
   refine⟨b,hl,rfl,fun i c v hc hv=>?_⟩
   match i with
   |0=>cases hc; cases hv; exact .str _
   |i+1=>cases hv
  ·cases hf
 |.recd fs,t,fuel,cs,x,hf,h=>by
  simp only[fitB] at hf
  split at hf
  ·rename_i l hu
   simp only[Bool.and_eq_true,decide_eq_true_eq] at hf
   obtain⟨xs,n,_,_,hl,hx,hfl⟩:=DataW.trod_struct hu h
   obtain⟨y,hy,hr⟩:=open_shs fs l.toList 0 n cs hf.2 (fun f hm=>by
    obtain⟨i,hi⟩:=List.mem_iff_getElem?.1 hm
    have hi':l[i]?=some f:=by simpa using hi
    have hlt:i<xs.length:=by rw[hx]; exact (Array.getElem?_eq_some_iff.1 hi').1
    exact⟨xs[i],by rw[hfl i f hi',List.getElem?_eq_getElem hlt]⟩) (by rw[hl,hf.1]; omega)
   refine⟨y,hy,by rw[hl,hf.1]; rfl,fun j c v hc hv=>hr j c v hc (by rw[Nat.zero_add]; exact hv)⟩
  ·rename_i n u hu
   simp only[Bool.and_eq_true,decide_eq_true_eq] at hf
   obtain⟨hl,m,hx⟩:=trod_arr hu h
   obtain⟨y,hy,hr⟩:=open_sha fs u n 0 m cs hf.2 (fun i hi=>by rw[Nat.zero_add]; exact hx i hi) (by rw[hl,hf.1]; omega)
   refine⟨y,hy,by rw[hl,hf.1]; rfl,fun j c v hc hv=>hr j c v hc (by rw[Nat.zero_mul,Nat.zero_add]; exact hv)⟩
  ·cases hf
 |.sl e,t,fuel,cs,x,hf,h=>by
  simp only[fitB] at hf
  split at hf
  ·rename_i u hu
   simp only[Bool.and_eq_true,decide_eq_true_eq] at hf
   obtain⟨⟨h1,h2⟩,h3⟩:=hf
   rcases DataW.trod_slice hu h with ⟨rfl,-⟩|⟨a,len,cap,elems,rest,n,_,rfl,_,hb,hl,hm,hlen,hel,_,_⟩
   ·refine⟨([]:List e.ty),⟨Nat.zero_le _,fun x hx=>by cases hx⟩,rfl,fun j c v hc hv=>?_⟩
    match j with
    |0=>cases hc; cases hv; exact .ro0 e _ _ (Nat.zero_le _) fun _=>rfl
    |j+1=>cases hv
   ·rw[h1] at hel
    refine open_row (base:=base) hl hm h2 fun i hi=>?_
    have he:=hel i hi
    rw[List.getElem?_eq_getElem (by omega)] at he
    obtain⟨cs,e1,e2⟩:=Option.bind_eq_some_iff.1 he
    exact⟨cs,e1,open_sh e u n cs _ h3 e2⟩
  ·cases hf
 |.mp _ _,t,fuel,cs,x,hf,h=>by simp[fitB] at hf
theorem open_shs:(fs:Shs)→∀(l:List Field) (n0 fuel:Nat) (cs:List Value),fitsB P fs l n0=true →
  (∀f∈l,∃x:DataW H × List MemPlace,DataW.trod enc P w base spare held fuel f.type ((cs.drop f.offset).take (P.cellsOf f.type))=some x)→n0+fs.size≤cs.length →
  ∃y:fs.ty,Wfs fs y∧∀(j:Nat) c v,(fs.cells y)[j]?=some c→cs[n0+j]?=some v→Rep [] (gA w) w c v
 |.nil,l,n0,fuel,cs,hf,h,hl=>⟨(),trivial,fun j c v hc=>by simp[Shs.cells] at hc⟩
 |.cons s r,[],n0,fuel,cs,hf,h,hl=>by simp[fitsB] at hf
 |.cons s r,f::q,n0,fuel,cs,hf,h,hl=>by
  simp only[fitsB,Bool.and_eq_true,decide_eq_true_eq] at hf
  obtain⟨⟨⟨h1,h2⟩,h3⟩,h4⟩:=hf
  simp only[Shs.size] at hl
  obtain⟨x,hx⟩:=h f (by simp)
  obtain⟨y1,w1,l1,r1⟩:=open_sh s f.type fuel _ x h3 hx
  obtain⟨y2,w2,r2⟩:=open_shs r q (n0+s.size) fuel cs h4 (fun f' hm=>h f' (List.mem_cons_of_mem _ hm)) (by omega)
  refine⟨(y1,y2),⟨w1,w2⟩,fun j c v hc hv=>?_⟩
  simp only[Shs.cells] at hc
  rcases Nat.lt_or_ge j s.size with hj|hj
  ·rw[List.getElem?_append_left (by rw[Sh.cells_size]; exact hj)] at hc
   refine r1 j c v hc ?_
   rw[h1,h2,List.getElem?_take,if_pos hj,List.getElem?_drop]
   exact hv
  ·rw[List.getElem?_append_right (by rw[Sh.cells_size]; exact hj),Sh.cells_size] at hc
   refine r2 _ c v hc ?_
   rw[show n0+s.size+(j-s.size)=n0+j by omega]
   exact hv
theorem open_sha:(fs:Shs)→∀(u:TypeId) (n i0 fuel:Nat) (cs:List Value),fitsA P fs u n=true →
  (∀i,i<n→∃x:DataW H × List MemPlace,DataW.trod enc P w base spare held fuel u ((cs.drop ((i0+i)*P.cellsOf u)).take (P.cellsOf u))=some x)→i0*P.cellsOf u+fs.size≤cs.length →
  ∃y:fs.ty,Wfs fs y∧∀(j:Nat) c v,(fs.cells y)[j]?=some c→cs[i0*P.cellsOf u+j]?=some v→Rep [] (gA w) w c v
 |.nil,u,n,i0,fuel,cs,hf,h,hl=>⟨(),trivial,fun j c v hc=>by simp[Shs.cells] at hc⟩
 |.cons s r,u,0,i0,fuel,cs,hf,h,hl=>by simp[fitsA] at hf
 |.cons s r,u,n+1,i0,fuel,cs,hf,h,hl=>by
  simp only[fitsA,Bool.and_eq_true,decide_eq_true_eq] at hf
  obtain⟨⟨h2,h3⟩,h4⟩:=hf
  simp only[Shs.size] at hl
  obtain⟨x,hx⟩:=h 0 (by omega)
  obtain⟨y1,w1,l1,r1⟩:=open_sh s u fuel _ x h3 hx
  have hm:(i0+1)*P.cellsOf u=i0*P.cellsOf u+s.size:=by rw[Nat.add_mul,Nat.one_mul,h2]
  obtain⟨y2,w2,r2⟩:=open_sha r u n (i0+1) fuel cs h4 (fun i hi=>by
   have:=h (i+1) (by omega)
   rwa [show i0+(i+1)=i0+1+i by omega] at this) (by rw[hm]; omega)
  refine⟨(y1,y2),⟨w1,w2⟩,fun j c v hc hv=>?_⟩
  simp only[Shs.cells] at hc
  rcases Nat.lt_or_ge j s.size with hj|hj
  ·rw[List.getElem?_append_left (by rw[Sh.cells_size]; exact hj)] at hc
   refine r1 j c v hc ?_
   rw[h2,Nat.add_zero,List.getElem?_take,if_pos hj,List.getElem?_drop,←h2]
   exact hv
  ·rw[List.getElem?_append_right (by rw[Sh.cells_size]; exact hj),Sh.cells_size] at hc
   refine r2 _ c v hc ?_
   rw[hm,show i0*P.cellsOf u+s.size+(j-s.size)=i0*P.cellsOf u+j by omega]
   exact hv
end
end
open Go.ChangeAt Go.ChangeShapes Go.WideShapes
theorem own_knob:ownKnob Tryz.prog.godebug=none:=by kernel_rfl
theorem laid_out:laidOutB Tryz.prog=true:=by kernel_rfl
theorem post_of_below {H:Type} {enc:TypeId × Value→H} {P:Program} {f:Func} {s:ChangeSpec} {apart fresh handsOn again:Bool} {W W':World} {args:Array Value} {v:Value} {ds gs:List (DataW H)} {before pa pv:List MemPlace}
  (hW:DataW.Whole enc P f.params.toList s.vars apart W args.toList ds gs before)
  (hres:∀(b:Nat) (sp:Nat→Bool) (hd:Bool),DataW.TrodAll enc P W' b sp hd f.resultTypes.toList (v.resultList f.resultTypes.size) (s.fn H (ds++gs)).results [])
  (hargs:∀sp:Nat→Bool,(∀p∈before,sp p.block=true)→DataW.TrodAll enc P W' 0 sp true f.params.toList args.toList (s.fn H (ds++gs)).args pa)
  (hvars:∀sp:Nat→Bool,(∀p∈before,sp p.block=true)→DataW.TrodVars enc P W' sp s.vars (s.fn H (ds++gs)).vars pv)
  (hps:before=pa++pv) (hb:Below W.heap.size W W')
  (hok:∀(j:Nat) (t:TypeId) (r:Value),f.resultTypes[j]?=some t→(v.resultList f.resultTypes.size)[j]?=some r→Value.okWide P W' .any 0 t r) :
  s.post enc P f apart fresh handsOn again W args v W':=by
 have hold:∀p∈before,(fun b=>decide (b<W.heap.size)) p.block=true:=fun p hp=>by simpa using hW.lt p hp
 have hlt:=hW.lt
 refine⟨ds,gs,before,[],pa,pv,hW,hres _ _ _,hargs _ hold,hvars _ hold,hb.frame _,fun _=>?_⟩
 obtain⟨_,_,_,_,_,hz,hn⟩:=hW
 refine⟨hok,_,_,([]++pa)++pv,⟨[]++pa,pv,trodAll_append (hargs _ (fun _ _=>rfl)) (hres _ _ _),hvars _ (fun _ _=>rfl),rfl,?_,?_⟩,?_⟩
 ·intro b off hp
  have hm:MemPlace.cell b off∈before:=by rw[hps]; simpa using hp
  rw[hb.frozen (p:=⟨b,off,none⟩) (hlt _ hm)]
  exact hz b off hm
 ·intro ha
  have:=hn ha
  rw[hps] at this
  simpa using this
 ·intro p hp _
  rw[hps]
  simpa using hp
def Shs.vals:(fs:Shs)→fs.ty→List AVal
 |.nil,_=>[]
 |.cons s r,x=>s.val x.1::r.vals x.2
def fitsT (P:Program):Shs→List TypeId→Bool
 |.nil,[]=>true
 |.cons s r,t::q=>fitB P s t&&(P.readableRec t&&decide (t<P.types.size))&&fitsT P r q
 |_,_=>false
section
variable {P:Program} {H:Type} {enc:TypeId × Value→H} {w:World} {base:Nat} {spare:Nat→Bool} {held:Bool}
theorem open_arg {s:Sh} {t:TypeId} {v:Value} {d:DataW H} {ps:List MemPlace} {r:Reach} {b0:Nat} (hf:fitB P s t=true) (hv:Value.okWide P w r b0 t v) (h:DataW.Trod enc P w base spare held t v d ps) :
  ∃y:s.ty,Wf s y∧Rep [] (gA w) w (s.val y) v:=by
 obtain⟨fuel,h⟩:=h
 obtain⟨y,h1,h2,h3⟩:=open_sh s t fuel _ _ hf h
 refine⟨y,h1,?_⟩
 have one:(∀a,v≠.agg a)→s.cells y=[s.val y]→Rep [] (gA w) w (s.val y) v:=fun hn hc=>by
  have hcv:v.cells.toList=[v]:=by cases v<;>first|rfl|exact absurd rfl (hn _)
  exact h3 0 _ v (by rw[hc]; rfl) (by rw[hcv]; rfl)
 cases s with
 |recd fs=>
  simp only[fitB] at hf
  split at hf
  ·rename_i l hu
   simp only[Value.okWide,hu] at hv
   obtain⟨cs,rfl,_⟩:=hv
   refine .agg _ _ ((Sh.cells_size (.recd fs) y).trans (by simpa[Value.cells] using h2.symm)) fun j c x hc hx=>h3 j c x hc (by simpa[Value.cells] using hx)
  ·rename_i n u hu
   simp only[Value.okWide,hu] at hv
   obtain⟨cs,rfl,_⟩:=hv
   refine .agg _ _ ((Sh.cells_size (.recd fs) y).trans (by simpa[Value.cells] using h2.symm)) fun j c x hc hx=>h3 j c x hc (by simpa[Value.cells] using hx)
  ·cases hf
 |int k=>
  refine one (fun a e=>?_) rfl
  subst e
  simp only[fitB] at hf
  split at hf
  ·rename_i j hu
   simp[Value.okWide,hu,Cell.okWide,Cell.ok] at hv
  ·cases hf
 |bool=>
  refine one (fun a e=>?_) rfl
  subst e
  simp only[fitB] at hf
  split at hf
  ·rename_i hu
   simp[Value.okWide,hu,Cell.okWide,Cell.ok] at hv
  ·cases hf
 |str=>
  refine one (fun a e=>?_) rfl
  subst e
  simp only[fitB] at hf
  split at hf
  ·rename_i hu
   simp[Value.okWide,hu,Cell.okWide,Cell.ok] at hv
  ·cases hf
 |mp k v=>simp[fitB] at hf
 |sl e0=>
  refine one (fun a e=>?_) rfl
  subst e
  simp only[fitB] at hf
  split at hf
  ·rename_i u hu
   simp[Value.okWide,hu,Cell.okWide,Cell.ok] at hv
  ·cases hf
theorem open_all {r:Reach} {b0:Nat}:∀(ss:Shs) (ts:List TypeId) (vs:List Value) (ds:List (DataW H)) (ps:List MemPlace),fitsT P ss ts=true→DataW.TrodAll enc P w base spare held ts vs ds ps →
  (∀(j:Nat) t v,ts[j]?=some t→vs[j]?=some v→Value.okWide P w r b0 t v) →
  ∃ys:ss.ty,Wfs ss ys∧(ss.vals ys).length=vs.length∧ds.length=ts.length∧∀(j:Nat) c v,(ss.vals ys)[j]?=some c→vs[j]?=some v→Rep [] (gA w) w c v
 |.nil,[],vs,ds,ps,hf,h,hv=>by
  obtain⟨rfl,rfl,rfl⟩:=trodAll_nil h
  exact⟨(),trivial,rfl,rfl,fun j c v hc=>by simp[Shs.vals] at hc⟩
 |.cons s q,[],vs,ds,ps,hf,h,hv=>by simp[fitsT] at hf
 |.nil,_::_,vs,ds,ps,hf,h,hv=>by simp[fitsT] at hf
 |.cons s q,t::ts,vs,ds,ps,hf,h,hv=>by
  simp only[fitsT,Bool.and_eq_true] at hf
  obtain⟨v,vs',d,ds',p1,p2,rfl,rfl,rfl,h1,h2⟩:=trodAll_cons h
  obtain⟨y,a1,a2⟩:=open_arg hf.1.1 (hv 0 t v rfl rfl) h1
  obtain⟨ys,b1,b2,b3,b4⟩:=open_all q ts vs' ds' p2 hf.2 h2 fun j t v ht hv'=>hv (j+1) t v (by simpa using ht) (by simpa using hv')
  refine⟨(y,ys),⟨a1,b1⟩,by simp[Shs.vals,b2],by simp[b3],fun j c v hc hv'=>?_⟩
  cases j with
  |zero=>
   simp only[Shs.vals,List.getElem?_cons_zero,Option.some.injEq] at hc hv'
   subst hc; subst hv'; exact a2
  |succ j=>exact b4 j c v (by simpa[Shs.vals] using hc) (by simpa using hv')
theorem all_stays (hl:laidOutB P=true) {W W':World} {sp':Nat→Bool}:∀(ss:Shs) (ts:List TypeId) (vs:List Value) (ds:List (DataW H)) (ps:List MemPlace),fitsT P ss ts=true→DataW.TrodAll enc P W base (fun _=>true) true ts vs ds ps →
  (∀p∈ps,W.sameAt W' p)→(∀p∈ps,sp' p.block=true)→DataW.TrodAll enc P W' base sp' true ts vs ds ps
 |.nil,[],vs,ds,ps,hf,h,_,_=>by
  obtain⟨rfl,rfl,rfl⟩:=trodAll_nil h
  rfl
 |.cons s q,[],vs,ds,ps,hf,h,_,_=>by simp[fitsT] at hf
 |.nil,_::_,vs,ds,ps,hf,h,_,_=>by simp[fitsT] at hf
 |.cons s q,t::ts,vs,ds,ps,hf,h,h1,h2=>by
  simp only[fitsT,Bool.and_eq_true,decide_eq_true_eq] at hf
  obtain⟨v,vs',d,ds',p1,p2,rfl,rfl,rfl,a1,a2⟩:=trodAll_cons h
  exact⟨p1,p2,WideElems.Trod_stays hl hf.1.2.1 hf.1.2.2 a1 (fun p hp=>h1 p (by simp[hp])) (fun p hp=>h2 p (by simp[hp])),
   all_stays hl q ts vs' ds' p2 hf.2 a2 (fun p hp=>h1 p (by simp[hp])) (fun p hp=>h2 p (by simp[hp])),rfl⟩
theorem law_post {F:List AVal→Option AOut} {fid:FuncId} {fn:Func} {s:ChangeSpec} {apart fresh handsOn again:Bool} (hF:FspOk P fid (toFsp F)) (hl:laidOutB P=true) (ss:Shs) (hfit:fitsT P ss fn.params.toList=true) (hnv:s.vars=[])
  {tb:TypeId} (hres:fn.resultTypes=#[tb]) (hb:P.underlying tb=some .bool) (hlaw:∀ys:ss.ty,Wfs ss ys→F (ss.vals ys)=some (.ret (.bool true)))
  (hfn:∀ds:List (DataW H),ds.length=fn.params.toList.length→(s.fn H ds).results=[.lit (.bool true)]∧(s.fn H ds).args=ds∧(s.fn H ds).vars=[])
  {W:World} {b0:Nat} {args:Array Value} {ds gs:List (DataW H)} {before:List MemPlace}
  (hval:∀(j:Nat) t v,fn.params[j]?=some t→args[j]?=some v→Value.okWide P W .any b0 t v) (hW:DataW.Whole enc P fn.params.toList s.vars apart W args.toList ds gs before) :
  Calls P fid args W fun e W'=>∃v,e=.returned v∧s.post enc P fn apart fresh handsOn again W args v W':=by
 have hW':=hW
 obtain⟨p,q,hA,hV,rfl,hfz,hnd⟩:=hW
 rw[hnv] at hV
 obtain⟨rfl,rfl⟩:=trodVars_none hV
 obtain⟨ys,h1,h2,h3,h4⟩:=open_all ss _ _ _ _ hfit hA fun j t v ht hv=>hval j t v (by simpa using ht) (by simpa using hv)
 have hcall:=hF.calls (ss.vals ys) (.ret (.bool true)) (by unfold toFsp; rw[hlaw ys h1]) (fun b=>b<W.heap.size) W args (fun b hb=>hb) (by simpa using h2) fun j c x hc hx=>h4 j c x hc (by simpa using hx)
 refine hcall.mono fun e W' hp=>?_
 obtain⟨M',_,_,_,hbl,x,rfl,hr⟩:=hp
 have:=rep_bool hr
 subst this
 obtain⟨f1,f2,f3⟩:=hfn ds h3
 have hlt:∀x∈p,x.block<W.heap.size:=fun x hx=>hW'.lt x (by simpa using hx)
 refine⟨_,rfl,post_of_below (pa:=p++[]) (pv:=[]) hW' (fun b sp hd=>?_) (fun sp hsp=>?_) (fun sp hsp=>?_) (by simp) hbl (ok_one hres rfl (okWide_bool_mk hb _))⟩
 ·rw[List.append_nil,f1,hres]
  exact trodAll_mk1 (shut_bool hb _)
 ·rw[List.append_nil,f2,List.append_nil]
  exact all_stays hl ss _ _ _ _ hfit hA (fun x hx=>hbl.same (hlt x hx)) fun x hx=>hsp x (by simpa using hx)
 ·rw[List.append_nil,f3,hnv]
  rfl
end
end Go.Proofs.YtneedmplkodcjaaGreat
namespace Go.Proofs.YtneedmplkodcjaaGreat
open Go.RowKit
def EqSh (k:Sh):Prop:=∀a b:k.ty,k.eqb a b=true↔a=b
theorem mpFind_put {k v:Sh} (he:EqSh k) (q q':k.ty) (y:v.ty):∀m,mpFind k v q (mpPut k v q' y m)=bif k.eqb q q' then some y else mpFind k v q m
 | []=>by rw[mpPut,mpFind]; rfl
 |p::r=>by
  rw[mpPut]
  cases h:k.eqb q' p.1
  ·rw[cond_false,mpFind,mpFind,mpFind_put he q q' y r]
   cases h2:k.eqb q p.1
   ·rfl
   ·have:k.eqb q q'=false:=by
     cases h3:k.eqb q q'
     ·rfl
     ·rw[←(he _ _).1 h3,h2] at h; cases h
    rw[this]; rfl
  ·rw[cond_true,mpFind,mpFind]
   have e:=(he _ _).1 h
   subst e
   cases k.eqb q p.1<;>rfl
def mpKeys (k v:Sh) (m:List (k.ty × v.ty)):List k.ty:=m.map (·.1)
theorem mpFind_mem {k v:Sh} (he:EqSh k) (q:k.ty):∀m:List (k.ty × v.ty),(mpFind k v q m).isSome=true↔q∈mpKeys k v m
 | []=>by simp[mpFind,mpKeys]
 |p::r=>by
  rw[mpFind]
  cases h:k.eqb q p.1
  ·rw[cond_false,mpFind_mem he q r]
   have:q≠p.1:=fun e=>by rw[(he _ _).2 e] at h; cases h
   simp[mpKeys,this]
  ·simp[mpKeys,(he _ _).1 h]
theorem mpKeys_put {k v:Sh} (he:EqSh k) (q:k.ty) (y:v.ty):∀m:List (k.ty × v.ty),mpKeys k v (mpPut k v q y m)=bif (mpFind k v q m).isSome then mpKeys k v m else mpKeys k v m++[q]
 | []=>rfl
 |p::r=>by
  rw[mpPut,mpFind]
  cases h:k.eqb q p.1
  ·simp only[cond_false]
   show p.1::mpKeys k v (mpPut k v q y r)=_
   rw[mpKeys_put he q y r]
   cases (mpFind k v q r).isSome<;>rfl
  ·have e:=(he _ _).1 h
   simp only[cond_true,Option.isSome_some]
   show q::r.map (·.1)=p.1::r.map (·.1)
   rw[e]
theorem mpKeys_nodup {k v:Sh} (he:EqSh k) (q:k.ty) (y:v.ty) {m:List (k.ty × v.ty)} (h:(mpKeys k v m).Nodup):(mpKeys k v (mpPut k v q y m)).Nodup:=by
 rw[mpKeys_put he]
 cases hs:(mpFind k v q m).isSome
 ·rw[cond_false,List.nodup_append]
  refine⟨h,by simp,fun a ha b hb=>?_⟩
  simp at hb
  subst hb
  rintro rfl
  rw[(mpFind_mem he a m).2 ha] at hs; cases hs
 ·exact h
theorem mpKeys_mem {k v:Sh} (he:EqSh k) (q q':k.ty) (y:v.ty) (m:List (k.ty × v.ty)):q'∈mpKeys k v (mpPut k v q y m)↔q'=q∨q'∈mpKeys k v m:=by
 rw[mpKeys_put he]
 cases hs:(mpFind k v q m).isSome
 ·simp[or_comm]
 ·have:=(mpFind_mem he q m).1 hs
  exact⟨.inr,fun h=>h.elim (fun e=>e▸this) id⟩
abbrev nmSh:Sh:=.recd (.cons (.int .i64) (.cons (.int .i64) .nil))
theorem nm_eqb:EqSh nmSh:=fun a b=>by
 obtain⟨a1,a2,_⟩:=a
 obtain⟨b1,b2,_⟩:=b
 show (@BEq.beq Int _ a1 b1&&(@BEq.beq Int _ a2 b2&&true))=true↔_
 rw[Bool.and_true,Bool.and_eq_true,@beq_iff_eq Int _ _ a1 b1,@beq_iff_eq Int _ _ a2 b2]
 exact⟨fun h=>by rw[h.1,h.2]; rfl,fun h=>by cases h; exact⟨rfl,rfl⟩⟩
noncomputable def fsM0:FuncId→Option Fsp:=fun _=>none
theorem fsM0_ok:FsOk fsM0:=fs_nil
noncomputable def spM0:FuncId→Option (Cv→Cv):=fun _=>none
theorem spM0_ok:SpOk spM0:=sp_nil
/-! Stones. -/
abbrev SnI:=Int × Int × (Int × Int × Unit) × Unit
abbrev SnI.x (s:SnI):Int:=s.2.2.1.1
abbrev SnI.y (s:SnI):Int:=s.2.2.1.2.1
def snD:SnI:=(0,0,(0,0,()),())
def snV (s:SnI):Bool:=(decide (-6553600000≤s.x)&&decide (s.x≤6553600000))&&((decide (-6553600000≤s.y)&&decide (s.y≤6553600000))&&((decide (0≤s.1)&&decide (s.1≤1))&&(decide (0≤s.2.1)&&decide (s.2.1≤7))))
def snN (a b:SnI):Bool:=a.1==b.1&&a.2.1==b.2.1
def snBad (l:List SnI) (i:Nat):Bool:=!snV (l.getD i snD) || (List.range i).any fun k=>snN (l.getD k snD) (l.getD i snD)
def snsB (l:List SnI):Bool:=decide (l.length≤16)&&!((List.range l.length).any (snBad l))
abbrev NmM:=List ((Int × Int × Unit) × Bool)
def mcF {α:Type} (l:List SnI) (R:Option α) (x:Int × NmM × Unit):Option (LRes (Int × NmM × Unit) α):=
 bif decide (x.1<(l.length:Int)) then
  if 0≤x.1∧x.1<(l.length:Int) then
   bif decide (-6553600000≤(l.getD x.1.toNat snD).x) then
    bif decide ((l.getD x.1.toNat snD).x≤6553600000) then
     bif decide (-6553600000≤(l.getD x.1.toNat snD).y) then
      bif !decide ((l.getD x.1.toNat snD).y≤6553600000) then finL R
      else bif decide (0≤(l.getD x.1.toNat snD).1) then
       bif !decide ((l.getD x.1.toNat snD).1≤1) then finL R
       else bif decide (0≤(l.getD x.1.toNat snD).2.1) then
        bif !decide ((l.getD x.1.toNat snD).2.1≤7) then finL R
        else bif (mpFind nmSh .bool ((l.getD x.1.toNat snD).1,(l.getD x.1.toNat snD).2.1,()) x.2.1).getD false then finL R
        else some (.cont (IntKind.i64.wrap (x.1+1),mpPut nmSh .bool ((l.getD x.1.toNat snD).1,(l.getD x.1.toNat snD).2.1,()) true x.2.1,()))
       else finL R
      else finL R
     else finL R
    else finL R
   else finL R
  else none
 else some (.brk 0 (x.1,x.2.1,()))
set_option maxRecDepth 100000 in
theorem mck_text (N n0:Nat) (α:Type) (l:List SnI) (k:AOut→Option α):evFn real tab ((twY fsM0 spM0).env real tab N (n0+12)) N Tryz.f13 α [.ro (.recd (.cons (.int .i64) (.cons (.int .i64) (.cons (.recd (.cons (.int .i64) (.cons (.int .i64) .nil))) .nil)))) l] k =
 bif decide ((l.length:Int)>16) then k (i1 2) else afterL (iterL N (mcF l (k (i1 2))) (0,[],())) fun id _=>if id=0 then k (i1 0) else none:=by kernel_rfl
def nmM (l:List SnI):Nat→NmM
 |0=>[]
 |i+1=>mpPut nmSh .bool ((l.getD i snD).1,(l.getD i snD).2.1,()) true (nmM l i)
theorem getD_bif (b:Bool) (o:Option Bool):Option.getD (bif b then some true else o) false=(b || o.getD false):=by cases b<;>rfl
theorem nmM_find (l:List SnI) (s:SnI):∀i,(mpFind nmSh .bool (s.1,s.2.1,()) (nmM l i)).getD false=(List.range i).any fun k=>snN (l.getD k snD) s
 |0=>rfl
 |i+1=>by
  rw[nmM,List.range_succ,List.any_append]
  refine (congrArg (fun o=>Option.getD o false) (mpFind_put (v:=.bool) nm_eqb (s.1,s.2.1,()) ((l.getD i snD).1,(l.getD i snD).2.1,()) true (nmM l i))).trans ?_
  show Option.getD (bif nmSh.eqb (s.1,s.2.1,()) ((l.getD i snD).1,(l.getD i snD).2.1,()) then some true else mpFind nmSh .bool (s.1,s.2.1,()) (nmM l i)) false=_
  have e:nmSh.eqb (s.1,s.2.1,()) ((l.getD i snD).1,(l.getD i snD).2.1,())=snN (l.getD i snD) s:=by
   show (@BEq.beq Int _ s.1 (l.getD i snD).1&&(@BEq.beq Int _ s.2.1 (l.getD i snD).2.1&&true))=_
   unfold snN
   rw[Bool.and_true,Bool.eq_iff_iff]
   simp only[Bool.and_eq_true,beq_iff_eq]
   exact⟨fun h=>⟨h.1.symm,h.2.symm⟩,fun h=>⟨h.1.symm,h.2.symm⟩⟩
  rw[e]
  refine (getD_bif _ _).trans ?_
  refine (congrArg (fun q=>snN (l.getD i snD) s || q) (nmM_find l s i)).trans ?_
  rw[Bool.or_comm]
  simp
theorem mcF_eq {α:Type} (l:List SnI) (R:Option α) {i:Nat} (hi:i<l.length) (hl:l.length≤maxLen):mcF l R ((i:Int),nmM l i,())=bif snBad l i then finL R else some (.cont (((i+1:Nat):Int),nmM l (i+1),())):=by
 unfold mcF snBad snV
 simp only[lt_len hi,cond_true,in_len hi,if_pos,and_self,decide_true,Int.toNat_natCast,wrap_next hi hl,nmM_find l (l.getD i snD) i]
 cases decide (-6553600000≤(l.getD i snD).x)
 ·rfl
 cases decide ((l.getD i snD).x≤6553600000)
 ·rfl
 cases decide (-6553600000≤(l.getD i snD).y)
 ·rfl
 cases decide ((l.getD i snD).y≤6553600000)
 ·rfl
 cases decide (0≤(l.getD i snD).1)
 ·rfl
 cases decide ((l.getD i snD).1≤1)
 ·rfl
 cases decide (0≤(l.getD i snD).2.1)
 ·rfl
 cases decide ((l.getD i snD).2.1≤7)
 ·rfl
 rfl
def snsE (l:List SnI):Int:=bif snsB l then 0 else 2
theorem mck_plain {α:Type} (l:List SnI) (k:AOut→Option α):(bif decide ((l.length:Int)>16) then k (i1 2) else afterL (iterL 20 (mcF l (k (i1 2))) (0,[],())) fun id _=>if id=0 then k (i1 0) else none)=k (i1 (snsE l)):=by
 unfold snsE snsB
 by_cases h:l.length≤16
 ·have hmx:l.length≤maxLen:=by have:maxLen=9223372036854775807:=rfl; omega
  rw[decide_eq_false (show ¬(l.length:Int)>16 by omega),cond_false,decide_eq_true h,Bool.true_and]
  refine (any_loop' (f:=mcF l (k (i1 2))) (fun i:Nat=>((i:Int),nmM l i,())) l.length (snBad l) (k (i1 2)) (fun i hi=>mcF_eq l _ hi hmx) (y:=((l.length:Int),nmM l l.length,())) (b:=0) ?_ (by omega)).trans ?_
  ·unfold mcF
   simp only[not_lt_len,cond_false]
  ·cases (List.range l.length).any (snBad l)<;>rfl
 ·rw[decide_eq_true (show (l.length:Int)>16 by omega),decide_eq_false h]; rfl
theorem mck_fin (l:List SnI) (hs:∀qSm∈([.ro (.recd (.cons (.int .i64) (.cons (.int .i64) (.cons (.recd (.cons (.int .i64) (.cons (.int .i64) .nil))) .nil)))) l]:List AVal),Sm qSm):∃N n,∀α (k:AOut→Option α),evFn real tab ((twY fsM0 spM0).env real tab N n) N Tryz.f13 α [.ro (.recd (.cons (.int .i64) (.cons (.int .i64) (.cons (.recd (.cons (.int .i64) (.cons (.int .i64) .nil))) .nil)))) l] k=k (i1 (snsE l)):=by
 exact⟨20,12,fun α k=>(mck_text 20 0 α l k).trans (mck_plain l k)⟩
noncomputable def mckS:Fsp:=fun _ args k=>match args with
 | [.ro (.recd (.cons (.int .i64) (.cons (.int .i64) (.cons (.recd (.cons (.int .i64) (.cons (.int .i64) .nil))) .nil)))) l]=>k (i1 (snsE l))
 |_=>none
theorem mckS_ok:FspOk Tryz.prog 13 mckS:=tower_Y fsM0_ok spM0_ok ⟨Tryz.func13,fun _ _=>by kernel_rfl⟩ (by intro α args k; unfold mckS; split<;>rfl) fun args out hSm hEq=>by
 unfold mckS at hEq
 split at hEq
 ·rename_i l
  obtain⟨N,n,e⟩:=mck_fin l hSm
  exact⟨N,n,(e AOut some).trans hEq⟩
 ·cases hEq
/-! Readings. -/
abbrev RdI:=Int × Int × Int × Unit
def rdD:RdI:=(0,0,0,())
def rgtR (n:Int) (r:RdI):Bool:=(decide (0≤r.1)&&decide (r.1≤n-1))&&(decide (0≤r.2.1)&&(decide (r.2.1≤r.2.2.1)&&decide (r.2.2.1≤70368744177664)))
theorem mrt_text (N n0:Nat) (α:Type) (a b c n:Int) (k:AOut→Option α):evFn real tab ((twY fsM0 spM0).env real tab N (n0+12)) N Tryz.f134 α [.agg [iN a,iN b,iN c],iN n] k =
 bif decide (0≤a) then bif decide (a≤IntKind.i64.wrap (n-1)) then bif decide (0≤b) then bif decide (b≤c) then k (b1 (decide (c≤70368744177664))) else k (b1 false) else k
 (b1 false) else k (b1 false) else k (b1 false):=by kernel_rfl
def nB (n:Int):Bool:=decide (0≤n)&&decide (n≤16)
noncomputable def mrtS:Fsp:=fun _ args k=>match args with
 | [.agg [.int .i64 a,.int .i64 b,.int .i64 c],.int .i64 n]=>bif nB n then k (b1 (rgtR n (a,b,c,()))) else none
 |_=>none
theorem mrtS_ok:FspOk Tryz.prog 134 mrtS:=tower_Y fsM0_ok spM0_ok ⟨Tryz.func134,fun _ _=>by kernel_rfl⟩ (by intro α args k; unfold mrtS; split<;>simp only[cond_bind,Option.bind_some,Option.bind_none]) fun args out hs h=>by
 unfold mrtS at h
 split at h
 ·rename_i a b c n
  cases hn:nB n
  ·rw[hn] at h; cases h
  ·rw[hn,cond_true] at h
   refine⟨1,12,(mrt_text 1 0 AOut a b c n some).trans (Eq.trans ?_ h)⟩
   have hn':=in_dec.1 hn
   rw[i64_in (n-1) (by omega)]
   unfold rgtR
   cases decide (0≤a)<;>cases decide (a≤n-1)<;>cases decide (0≤b)<;>cases decide (b≤c)<;>rfl
 ·cases h
noncomputable def fsM1:FuncId→Option Fsp:=fun g=>
 if g=13 then some mckS else
 if g=134 then some mrtS else
 fsM0 g
theorem fsM1_ok:FsOk fsM1:=
 fs_cons mckS_ok <|
 fs_cons mrtS_ok <|
 fsM0_ok
theorem take_nextX {X:Type} (l:List X) (d:X) {i:Nat} (h:i<l.length):l.take (i+1)=l.take i++[l.getD i d]:=by
 rw[List.take_add_one,List.getElem?_eq_getElem h,List.getD_eq_getElem?_getD,List.getElem?_eq_getElem h]
 rfl
abbrev RdI.lo (r:RdI):Int:=r.2.1
abbrev RdI.hi (r:RdI):Int:=r.2.2.1
def bLo (l:List RdI) (k:Nat):Int:=l.foldl (fun a r=>if r.1=(k:Int) then max a r.lo else a) 0
def bHi (l:List RdI) (k:Nat):Int:=l.foldl (fun a r=>if r.1=(k:Int) then min a r.hi else a) 70368744177664
theorem bLo_add (l:List RdI) (r:RdI) (k:Nat):bLo (l++[r]) k=if r.1=(k:Int) then max (bLo l k) r.lo else bLo l k:=by
 unfold bLo; rw[List.foldl_append]; rfl
theorem bHi_add (l:List RdI) (r:RdI) (k:Nat):bHi (l++[r]) k=if r.1=(k:Int) then min (bHi l k) r.hi else bHi l k:=by
 unfold bHi; rw[List.foldl_append]; rfl
def bndM (n:Nat) (l:List RdI):List RdI:=(List.range n).map fun k:Nat=>(((k:Int),bLo l k,bHi l k,()):RdI)
theorem bndM_len (n:Nat) (l:List RdI):(bndM n l).length=n:=by simp[bndM]
theorem bndM_get (n:Nat) (l:List RdI) {k:Nat} (h:k<n):(bndM n l).getD k rdD=((k:Int),bLo l k,bHi l k,()):=by
 rw[List.getD_eq_getElem?_getD,List.getElem?_eq_getElem (by rw[bndM_len]; exact h)]
 simp[bndM]
theorem bndM_ext (n:Nat) (l:List RdI) (o:List RdI) (ho:o.length=n) (h:∀k,k<n→o.getD k rdD=((k:Int),bLo l k,bHi l k,())):o=bndM n l:=by
 apply List.ext_getElem
 ·rw[ho,bndM_len]
 ·intro k h1 h2
  have e:=h k (by omega)
  rw[List.getD_eq_getElem?_getD,List.getElem?_eq_getElem h1] at e
  refine (show o[k]=_ from e).trans ?_
  simp[bndM]
def meet1 (o:List RdI) (r:RdI):List RdI:=o.set r.1.toNat ((o.getD r.1.toNat rdD).1,if (o.getD r.1.toNat rdD).2.1<r.2.1 then r.2.1 else (o.getD r.1.toNat rdD).2.1,(o.getD r.1.toNat rdD).2.2.1,())
def meet2 (o:List RdI) (r:RdI):List RdI:=(meet1 o r).set r.1.toNat (((meet1 o r).getD r.1.toNat rdD).1,((meet1 o r).getD r.1.toNat rdD).2.1,if r.2.2.1<(o.getD r.1.toNat rdD).2.2.1 then r.2.2.1 else (o.getD r.1.toNat rdD).2.2.1,())
theorem getD_setX {X:Type} (o:List X) (d v:X) (i k:Nat) (hi:i<o.length):(o.set i v).getD k d=if k=i then v else o.getD k d:=by
 rw[List.getD_eq_getElem?_getD,List.getElem?_set,List.getD_eq_getElem?_getD]
 by_cases h:i=k
 ·subst h; simp[hi]
 ·rw[if_neg h,if_neg (Ne.symm h)]
theorem bnd_meet (n:Nat) (l:List RdI) (r:RdI) (h0:0≤r.1) (h1:r.1<(n:Int)):meet2 (bndM n l) r=bndM n (l++[r]):=by
 have hk:r.1.toNat<n:=by omega
 have hb:=bndM_len n l
 have hg:=bndM_get n l hk
 have e1:(meet1 (bndM n l) r).length=n:=by unfold meet1; rw[List.length_set]; exact hb
 refine bndM_ext n _ _ (by unfold meet2; rw[List.length_set]; exact e1) fun k hkn=>?_
 unfold meet2
 rw[getD_setX _ _ _ _ _ (by omega)]
 unfold meet1
 rw[getD_setX _ _ _ _ _ (by omega),getD_setX _ _ _ _ _ (by omega),if_pos rfl,hg]
 rw[bLo_add,bHi_add]
 by_cases e:k=r.1.toNat
 ·have er:r.1=(k:Int):=by omega
  rw[if_pos e,if_pos er,if_pos er]
  subst e
  show ((r.1.toNat:Int),(if bLo l r.1.toNat<r.2.1 then r.2.1 else bLo l r.1.toNat),(if r.2.2.1<bHi l r.1.toNat then r.2.2.1 else bHi l r.1.toNat),())=_
  have a1:(if bLo l r.1.toNat<r.2.1 then r.2.1 else bLo l r.1.toNat)=max (bLo l r.1.toNat) r.lo:=by
   show _=max (bLo l r.1.toNat) r.2.1
   split<;>omega
  have a2:(if r.2.2.1<bHi l r.1.toNat then r.2.2.1 else bHi l r.1.toNat)=min (bHi l r.1.toNat) r.hi:=by
   show _=min (bHi l r.1.toNat) r.2.2.1
   split<;>omega
  rw[a1,a2]
 ·have er:¬r.1=(k:Int):=by omega
  rw[if_neg e,if_neg er,if_neg er,if_neg e,bndM_get n l hkn]
def rdsB (n:Int) (l:List RdI):Bool:=!l.any fun r=>!rgtR n r
def bndC (n:Nat) (l:List RdI):Bool:=(List.range n).any fun i=>decide (bLo l i>bHi l i)
def bndE (n:Int) (l:List RdI):Int:=bif decide (l.length≤256) then bif nB n&&rdsB n l then bif bndC n.toNat l then 7 else 0 else 2 else 3
def bndR (n:Int) (l:List RdI):List RdI:=bif bndE n l==0 then bndM n.toNat l else []
def bndO (xs:List RdI) (e:Int):AOut:=.ret (.tup [.ro (.recd (.cons (.int .i64) (.cons (.int .i64) (.cons (.int .i64) .nil)))) xs,.int .i64 e])
def bF1 {α:Type} (n:Int) (x:List RdI × Int × Unit):Option (LRes (List RdI × Int × Unit) α):=
 bif decide (x.2.1<n) then
  if (x.1.length+[(x.2.1,0,70368744177664,())].length)*24≤room then some (.cont (x.1++[(x.2.1,0,70368744177664,())],IntKind.i64.wrap (x.2.1+1),()))
  else none
 else some (.brk 1 (x.1,x.2.1,()))
def bF2 {α:Type} (l:List RdI) (x:Int × List RdI × Unit):Option (LRes (Int × List RdI × Unit) α):=
 bif decide (x.1<(l.length:Int)) then
  if 0≤x.1∧x.1<(l.length:Int) then
   if 0≤(l.getD x.1.toNat rdD).1∧(l.getD x.1.toNat rdD).1<(x.2.1.length:Int) then some (.cont (IntKind.i64.wrap (x.1+1),meet2 x.2.1 (l.getD x.1.toNat rdD),()))
   else none
  else none
 else some (.brk 3 (x.1,x.2.1,()))
def bF3 {α:Type} (o:List RdI) (k:AOut→Option α) (x:Int × Unit):Option (LRes (Int × Unit) α):=
 bif decide (x.1<(o.length:Int)) then
  if 0≤x.1∧x.1<(o.length:Int) then
   bif decide ((o.getD x.1.toNat rdD).2.1>(o.getD x.1.toNat rdD).2.2.1) then finL (bif decide (x.1≥0) then k (bndO [] 7) else k (bndO o 0))
   else some (.cont (IntKind.i64.wrap (x.1+1),()))
  else none
 else some (.brk 0 (x.1,()))
def bRest {α:Type} (N:Nat) (n:Int) (l:List RdI) (k:AOut→Option α):Option α:=
 afterL (iterL N (bF1 n) ([],0,())) fun id y=>if id=1 then afterL (iterL N (bF2 l) (0,y.1,())) fun id y=>if id=3 then afterL (iterL N (bF3 y.2.1 k) (0,())) fun id _=>if id=0 then k (bndO y.2.1 0) else none else none else none
def bF0 {α:Type} (N:Nat) (l:List RdI) (k:AOut→Option α) (x:Int × Int × Unit):Option (LRes (Int × Int × Unit) α):=
 bif decide (x.1<(l.length:Int)) then
  if 0≤x.1∧x.1<(l.length:Int) then
   bif nB x.2.1 then
    bif !rgtR x.2.1 ((l.getD x.1.toNat rdD).1,(l.getD x.1.toNat rdD).2.1,(l.getD x.1.toNat rdD).2.2.1,()) then finL (bif decide (x.1≥0) then k (bndO [] 2) else bRest N x.2.1 l k)
    else some (.cont (IntKind.i64.wrap (x.1+1),x.2.1,()))
   else none
  else none
 else some (.brk 0 (x.1,x.2.1,()))
set_option maxRecDepth 100000 in
theorem mbnd_text (N n0:Nat) (α:Type) (n:Int) (l:List RdI) (k:AOut→Option α):evFn real tab ((twY fsM1 spM0).env real tab N (n0+12)) N Tryz.f108 α [iN n,.ro (.recd (.cons (.int .i64) (.cons (.int .i64) (.cons (.int .i64) .nil)))) l] k =
 bif decide ((l.length:Int)>256) then k (bndO [] 3) else bif decide (0≤n) then bif !decide (n≤16) then bif !decide (n≤16) then k (bndO [] 2) else bRest N n l k else afterL
 (iterL N (bF0 N l k) (0,n,())) fun id y=>if id=0 then bRest N y.2.1 l k else none else k (bndO [] 2):=by kernel_rfl
theorem bF1_eq {α:Type} (n:Nat) {i:Nat} (hi:i<n) (hn:n≤16):bF1 (α:=α) (n:Int) (bndM i [],(i:Int),())=some (.cont (bndM (i+1) [],((i+1:Nat):Int),())):=by
 unfold bF1
 have hmx:n≤maxLen:=by have:maxLen=9223372036854775807:=rfl; omega
 have hr:((bndM i []).length+1)*24≤room:=by rw[bndM_len]; simp only[room]; omega
 simp only[lt_len hi,cond_true,List.length_cons,List.length_nil,Nat.zero_add,if_pos hr,wrap_next hi hmx]
 unfold bndM
 rw[List.range_succ,List.map_append]
 rfl
theorem bF2_eq {α:Type} (n:Nat) (l:List RdI) (hl:l.length≤maxLen) (hr:rdsB n l=true) {i:Nat} (hi:i<l.length):bF2 (α:=α) l ((i:Int),bndM n (l.take i),())=some (.cont (((i+1:Nat):Int),bndM n (l.take (i+1)),())):=by
 unfold bF2
 have hg:rgtR n (l.getD i rdD)=true:=by
  unfold rdsB at hr
  rw[Bool.not_eq_true',List.any_eq_false] at hr
  have:=hr (l.getD i rdD) (by rw[List.getD_eq_getElem?_getD,List.getElem?_eq_getElem hi]; exact List.getElem_mem hi)
  cases h:rgtR n (l.getD i rdD)
  ·rw[h] at this; exact absurd rfl this
  ·rfl
 unfold rgtR at hg
 rw[Bool.and_eq_true,in_dec] at hg
 have hx:0≤(l.getD i rdD).1∧(l.getD i rdD).1<(n:Int):=⟨hg.1.1,by omega⟩
 simp only[lt_len hi,cond_true,in_len hi,if_pos,and_self,decide_true,Int.toNat_natCast,wrap_next hi hl,bndM_len,hx.1,hx.2,bnd_meet n _ _ hx.1 hx.2,←take_nextX l rdD hi]
theorem bF3_eq {α:Type} (n:Nat) (l:List RdI) (hn:n≤maxLen) (k:AOut→Option α) {i:Nat} (hi:i<n):bF3 (bndM n l) k ((i:Int),())=bif decide (bLo l i>bHi l i) then finL (k (bndO [] 7)) else some (.cont (((i+1:Nat):Int),())):=by
 unfold bF3
 have h0:decide ((i:Int)≥0)=true:=decide_eq_true (by omega)
 simp only[bndM_len,lt_len hi,cond_true,in_len hi,if_pos,and_self,decide_true,Int.toNat_natCast,wrap_next hi hn,bndM_get n l hi,h0]
theorem bRest_eq {α:Type} (n:Nat) (hn:n≤16) (l:List RdI) (hl:l.length≤256) (hr:rdsB n l=true) (k:AOut→Option α):bRest 300 (n:Int) l k=bif bndC n l then k (bndO [] 7) else k (bndO (bndM n l) 0):=by
 have hm:maxLen=9223372036854775807:=rfl
 unfold bRest
 refine (count_loop (f:=bF1 (n:Int)) (fun i=>(bndM i [],(i:Int),())) n (fun i hi=>bF1_eq n hi hn) (y:=(bndM n [],(n:Int),())) (b:=1) ?_ (by omega)).trans ?_
 ·unfold bF1; simp only[not_lt_len,cond_false]
 simp only[if_true]
 refine (count_loop (f:=bF2 l) (fun i=>((i:Int),bndM n (l.take i),())) l.length (fun i hi=>bF2_eq n l (by omega) hr hi) (y:=((l.length:Int),bndM n l,())) (b:=3) ?_ (by omega)).trans ?_
 ·unfold bF2; simp only[not_lt_len,cond_false,List.take_length]
 simp only[if_true]
 refine (any_loop' (f:=bF3 (bndM n l) k) (fun i:Nat=>((i:Int),())) n (fun i=>decide (bLo l i>bHi l i)) (k (bndO [] 7)) (fun i hi=>bF3_eq n l (by omega) k hi) (y:=((n:Int),())) (b:=0) ?_ (by omega)).trans ?_
 ·unfold bF3; simp only[bndM_len,not_lt_len,cond_false]
 ·rfl
theorem bF0_eq {α:Type} (n:Int) (hn:nB n=true) (l:List RdI) (hl:l.length≤maxLen) (k:AOut→Option α) {i:Nat} (hi:i<l.length):bF0 300 l k ((i:Int),n,())=bif !rgtR n (l.getD i rdD) then finL (k (bndO [] 2)) else some (.cont (((i+1:Nat):Int),n,())):=by
 unfold bF0
 have h0:decide ((i:Int)≥0)=true:=decide_eq_true (by omega)
 simp only[lt_len hi,cond_true,in_len hi,if_pos,and_self,decide_true,Int.toNat_natCast,wrap_next hi hl,h0,hn]
theorem mbnd_plain {α:Type} (n:Int) (l:List RdI) (k:AOut→Option α):(bif decide ((l.length:Int)>256) then k (bndO [] 3) else
  bif decide (0≤n) then
   bif !decide (n≤16) then
    bif !decide (n≤16) then k (bndO [] 2) else bRest 300 n l k
   else afterL (iterL 300 (bF0 300 l k) (0,n,())) fun id y=>if id=0 then bRest 300 y.2.1 l k else none
  else k (bndO [] 2))=k (bndO (bndR n l) (bndE n l)):=by
 unfold bndR bndE
 by_cases hl:l.length≤256
 ·rw[decide_eq_false (show ¬(l.length:Int)>256 by omega),cond_false,decide_eq_true hl,cond_true]
  have hm:maxLen=9223372036854775807:=rfl
  by_cases h0:0≤n
  ·rw[decide_eq_true h0,cond_true]
   by_cases h1:n≤16
   ·have hn:nB n=true:=in_dec.2 ⟨h0,h1⟩
    rw[decide_eq_true h1,Bool.not_true,cond_false,hn,Bool.true_and]
    obtain⟨m,rfl⟩:∃m:Nat,n=m:=⟨n.toNat,by omega⟩
    refine (any_loop' (f:=bF0 300 l k) (fun i:Nat=>((i:Int),(m:Int),())) l.length (fun i=>!rgtR m (l.getD i rdD)) (k (bndO [] 2)) (fun i hi=>bF0_eq _ hn l (by omega) k hi) (y:=((l.length:Int),(m:Int),())) (b:=0) ?_ (by omega)).trans ?_
    ·unfold bF0; simp only[not_lt_len,cond_false]
    ·rw[any_rangeX l rdD (fun r=>!rgtR m r)]
     have e:rdsB m l=!l.any fun r=>!rgtR m r:=rfl
     cases h:l.any fun r=>!rgtR m r
     ·rw[h] at e
      rw[e,cond_false]
      simp only[if_true,Bool.not_false,cond_true,Int.toNat_natCast]
      rw[bRest_eq m (by omega) l hl e k]
      cases bndC m l<;>rfl
     ·rw[h] at e
      rw[e]
      rfl
   ·have hn:nB n=false:=by cases h:nB n with|false=>rfl|true=>exact absurd (in_dec.1 h).2 h1
    rw[decide_eq_false h1,hn]
    rfl
  ·have hn:nB n=false:=by cases h:nB n with|false=>rfl|true=>exact absurd (in_dec.1 h).1 h0
   rw[decide_eq_false h0,hn]
   rfl
 ·rw[decide_eq_true (show (l.length:Int)>256 by omega),decide_eq_false hl]; rfl
noncomputable def mbndS:Fsp:=fun _ args k=>match args with
 | [.int .i64 n,.ro (.recd (.cons (.int .i64) (.cons (.int .i64) (.cons (.int .i64) .nil)))) l]=>k (bndO (bndR n l) (bndE n l))
 |_=>none
theorem mbndS_ok:FspOk Tryz.prog 108 mbndS:=tower_Y fsM1_ok spM0_ok ⟨Tryz.func108,fun _ _=>by kernel_rfl⟩ (by intro α args k; unfold mbndS; split<;>rfl) fun args out hSm hEq=>by
 unfold mbndS at hEq
 split at hEq
 ·rename_i n l
  exact⟨300,12,((mbnd_text 300 0 AOut n l some).trans (mbnd_plain n l some)).trans hEq⟩
 ·cases hEq
section
variable (S:Int→Int)
def qin:Nat→List Int→List Int
 |0,V=>V
 |j+1,V=>bif decide (S (V.getD (j+1) 0)<S (V.getD j 0)) then qin j ((V.set (j+1) (V.getD j 0)).set j (V.getD (j+1) 0)) else V
def qis:Nat→List Int→List Int
 |0,V=>V
 |i+1,V=>qin S (i+1) (qis i V)
theorem swp_perm {V:List Int} {i j:Nat} (hi:i<V.length) (hj:j<V.length):((V.set i (V.getD j 0)).set j (V.getD i 0)).Perm V:=by
 rw[List.getD_eq_getElem?_getD,List.getD_eq_getElem?_getD,List.getElem?_eq_getElem hi,List.getElem?_eq_getElem hj]
 exact List.set_set_perm hi hj
theorem qin_perm:∀j V,j<V.length→(qin S j V).Perm V
 |0,V,_=>.refl _
 |j+1,V,h=>by
  rw[qin]
  cases decide (S (V.getD (j+1) 0)<S (V.getD j 0))
  ·exact .refl _
  ·exact (qin_perm j _ (by rw[List.length_set,List.length_set]; omega)).trans (swp_perm h (by omega))
theorem qis_perm:∀i (V:List Int),i<V.length→(qis S i V).Perm V
 |0,V,_=>.refl _
 |i+1,V,h=>by
  have ih:=qis_perm i V (by omega)
  exact (qin_perm S (i+1) _ (by rw[ih.length_eq]; exact h)).trans ih
def qRs (V:List Int) (n:Nat):Prop:=∀a b,a<b→b<n→S (V.getD a 0)≤S (V.getD b 0)
theorem qin_rs (n:Nat):∀j V,j<n→n≤V.length→(∀a b,a<b→b<n→a≠j→b≠j→S (V.getD a 0)≤S (V.getD b 0))→(∀b,j<b→b<n→S (V.getD j 0)≤S (V.getD b 0))→qRs S (qin S j V) n
 |0,V,_,_,h1,h2=>fun a b hab hb=>by
  by_cases ha:a=0
  ·subst ha; exact h2 b hab hb
  ·exact h1 a b hab hb ha (by omega)
 |j+1,V,hj,hn,h1,h2=>by
  rw[qin]
  cases hc:decide (S (V.getD (j+1) 0)<S (V.getD j 0))
  ·have hc:=of_decide_eq_false hc
   rw[cond_false]
   intro a b hab hb
   by_cases ha:a=j+1
   ·subst ha; exact h2 b hab hb
   ·by_cases hb':b=j+1
    ·subst hb'
     by_cases hj':a=j
     ·subst hj'; omega
     ·have:=h1 a j (by omega) (by omega) ha (by omega)
      show S (V.getD a 0)≤S (V.getD (j+1) 0)
      omega
    ·exact h1 a b hab hb ha hb'
  ·have hc:=of_decide_eq_true hc
   rw[cond_true]
   have g:∀k,((V.set (j+1) (V.getD j 0)).set j (V.getD (j+1) 0)).getD k 0=if k=j then V.getD (j+1) 0 else if k=j+1 then V.getD j 0 else V.getD k 0:=fun k=>by
    rw[getD_setX _ _ _ _ _ (by rw[List.length_set]; omega),getD_setX _ _ _ _ _ (by omega)]
   refine qin_rs n j _ (by omega) (by rw[List.length_set,List.length_set]; exact hn) (fun a b hab hb ha hb'=>?_) (fun b hab hb=>?_)
   ·rw[g,g,if_neg ha,if_neg hb']
    by_cases h3:a=j+1
    ·rw[if_pos h3,if_neg (by omega)]
     exact h1 j b (by omega) hb (by omega) (by omega)
    ·rw[if_neg h3]
     by_cases h4:b=j+1
     ·rw[if_pos h4]
      exact h1 a j (by omega) (by omega) h3 (by omega)
     ·rw[if_neg h4]; exact h1 a b hab hb h3 h4
   ·rw[g,g,if_pos rfl,if_neg (by omega)]
    by_cases h4:b=j+1
    ·rw[if_pos h4]; omega
    ·rw[if_neg h4]; exact h2 b (by omega) hb
theorem qis_rs:∀i (V:List Int),i<V.length→qRs S (qis S i V) (i+1)
 |0,V,_=>fun a b hab hb=>by omega
 |i+1,V,h=>by
  have ih:=qis_rs i V (by omega)
  have hl:=(qis_perm S i V (by omega)).length_eq
  exact qin_rs S (i+2) (i+1) _ (by omega) (by omega) (fun a b hab hb ha hb'=>ih a b hab (by omega)) (fun b hab hb=>by omega)
def qst (V:List Int):List Int:=qis S (V.length-1) V
theorem qst_perm (V:List Int):(qst S V).Perm V:=by
 unfold qst
 rcases Nat.eq_zero_or_pos V.length with h|h
 ·rw[h]; exact .refl _
 ·exact qis_perm S _ V (by omega)
theorem qst_rs (V:List Int):qRs S (qst S V) V.length:=by
 unfold qst
 rcases Nat.eq_zero_or_pos V.length with h|h
 ·rw[h]; exact fun a b _ hb=>by omega
 ·have:=qis_rs S (V.length-1) V (by omega)
  rw[show V.length-1+1=V.length by omega] at this
  exact this
theorem qis_len (i:Nat) (V:List Int) (h:i<V.length):(qis S i V).length=V.length:=(qis_perm S i V h).length_eq
end
noncomputable def fsShe0:FuncId→Option Fsp:=fun _=>none
theorem fsShe0_ok:FsOk fsShe0:=fun g S h=>by cases h
set_option maxRecDepth 100000 in
theorem qck_text (N n0:Nat) (α:Type) (x y:Int) (k:AOut→Option α):evFn real tab ((twY fsShe0 spM0).env real tab N (n0+8)) N Tryz.f46 α [.agg [.int .i64 x,.int .i64 y]] k =
 bif decide (-6553600000≤x) then bif decide (x≤6553600000) then bif decide (-6553600000≤y) then k (AOut.ret (AVal.bool (decide (y≤6553600000)))) else k (AOut.ret (AVal.bool
 false)) else k (AOut.ret (AVal.bool false)) else k (AOut.ret (AVal.bool false)):=by kernel_rfl
set_option maxRecDepth 100000 in
theorem qzo_text (N n0:Nat) (α:Type) (x y:Int) (k:AOut→Option α):evFn real tab ((twY fsShe0 spM0).env real tab N (n0+8)) N Tryz.f47 α [.agg [.int .i64 x,.int .i64 y]] k =
 bif decide (IntKind.i64.wrap ((if x<IntKind.i64.wrap (0-x) then IntKind.i64.wrap (0-x) else x)+9502720)≥155648000) then bif decide (IntKind.i64.wrap ((if x <
 IntKind.i64.wrap (0-x) then IntKind.i64.wrap (0-x) else x)+9502720)≥155648000) then k (AOut.ret (AVal.int IntKind.i64 0)) else bif decide (IntKind.i64.wrap (IntKind.i64.wrap
 (x*x)+IntKind.i64.wrap (y*y))≤16736095983108096) then k (AOut.ret (AVal.int IntKind.i64 2)) else bif decide (IntKind.i64.wrap (y+9502720)<0) then k (AOut.ret (AVal.int
 IntKind.i64 1)) else k (AOut.ret (AVal.int IntKind.i64 3)) else bif decide (IntKind.i64.wrap (y-9502720)>119865344) then bif decide (IntKind.i64.wrap (y-9502720)>119865344)
 then k (AOut.ret (AVal.int IntKind.i64 0)) else bif decide (IntKind.i64.wrap (IntKind.i64.wrap (x*x)+IntKind.i64.wrap (y*y))≤16736095983108096) then k (AOut.ret (AVal.int
 IntKind.i64 2)) else bif decide (IntKind.i64.wrap (y+9502720)<0) then k (AOut.ret (AVal.int IntKind.i64 1)) else k (AOut.ret (AVal.int IntKind.i64 3)) else bif decide
 (IntKind.i64.wrap (y-9502720)≤-419495936) then k (AOut.ret (AVal.int IntKind.i64 0)) else bif decide (IntKind.i64.wrap (IntKind.i64.wrap (x*x)+IntKind.i64.wrap (y*y)) ≤
 16736095983108096) then k (AOut.ret (AVal.int IntKind.i64 2)) else bif decide (IntKind.i64.wrap (y+9502720)<0) then k (AOut.ret (AVal.int IntKind.i64 1)) else k (AOut.ret
 (AVal.int IntKind.i64 3)):=by kernel_rfl
set_option maxRecDepth 100000 in
theorem qco_text (N n0:Nat) (α:Type) (x y u v:Int) (k:AOut→Option α):evFn real tab ((twY fsShe0 spM0).env real tab N (n0+8)) N Tryz.f85 α [.agg [.int .i64 x,.int .i64 y],.agg [.int .i64 u,.int .i64 v]] k =
 bif decide ((if (if IntKind.i64.wrap (x-u)<IntKind.i64.wrap (0-IntKind.i64.wrap (x-u)) then IntKind.i64.wrap (0-IntKind.i64.wrap (x-u)) else IntKind.i64.wrap (x-u)) <
 if IntKind.i64.wrap (y-v)<IntKind.i64.wrap (0-IntKind.i64.wrap (y-v)) then IntKind.i64.wrap (0-IntKind.i64.wrap (y-v)) else IntKind.i64.wrap (y-v) then if
 IntKind.i64.wrap (y-v)<IntKind.i64.wrap (0-IntKind.i64.wrap (y-v)) then IntKind.i64.wrap (0-IntKind.i64.wrap (y-v)) else IntKind.i64.wrap (y-v) else if
 IntKind.i64.wrap (x-u)<IntKind.i64.wrap (0-IntKind.i64.wrap (x-u)) then IntKind.i64.wrap (0-IntKind.i64.wrap (x-u)) else IntKind.i64.wrap (x-u))>19005440) then k
 (AOut.ret (AVal.int IntKind.i64 1)) else bif decide (IntKind.i64.wrap (IntKind.i64.wrap (IntKind.i64.wrap (x-u)*IntKind.i64.wrap (x-u))+IntKind.i64.wrap (IntKind.i64.wrap (y
 - v)*IntKind.i64.wrap (y-v)))<361206749593600) then k (AOut.ret (AVal.int IntKind.i64 (-1))) else bif decide (IntKind.i64.wrap (IntKind.i64.wrap (IntKind.i64.wrap (x-u) *
 IntKind.i64.wrap (x-u))+IntKind.i64.wrap (IntKind.i64.wrap (y-v)*IntKind.i64.wrap (y-v)))>361206749593600) then k (AOut.ret (AVal.int IntKind.i64 1)) else k (AOut.ret
 (AVal.int IntKind.i64 0)):=by kernel_rfl
/-! Contracts. -/
theorem qi64 (n:Int) (h:-9223372036854775808≤n∧n≤9223372036854775807):IntKind.i64.wrap n=n:=by rw[IntKind.wrap_i64]; omega
def qspB (x y:Int):Bool:=(decide (-6553600000≤x)&&decide (x≤6553600000))&&(decide (-6553600000≤y)&&decide (y≤6553600000))
theorem qsp_in {x y:Int} (h:qspB x y=true):(-6553600000≤x∧x≤6553600000)∧-6553600000≤y∧y≤6553600000:=by
 unfold qspB at h
 simpa only[Bool.and_eq_true,decide_eq_true_eq] using h
def qsz (x:Int):Int:=if x < -x then -x else x
theorem qsz_ok {x:Int} (h:-90000000000≤x∧x≤90000000000):(if x<IntKind.i64.wrap (0-x) then IntKind.i64.wrap (0-x) else x)=qsz x:=by
 rw[qi64 (0-x) (by omega)]
 unfold qsz
 rw[show (0:Int)-x=-x by omega]
theorem qsz_in (x:Int):(0≤x∧qsz x=x)∨(x<0∧qsz x=-x):=by
 unfold qsz
 split<;>omega
def qmx (a b:Int):Int:=if a<b then b else a
def qzn (x y:Int):Int:=if qsz x+9502720≥155648000 then 0 else if y-9502720>119865344 then 0 else if y-9502720≤-419495936 then 0 else if x*x+y*y≤16736095983108096 then 2 else if y+9502720<0 then 1 else 3
def qcn (x y:Int):Int:=if qmx (qsz x) (qsz y)>19005440 then 1 else if x*x+y*y<361206749593600 then -1 else if x*x+y*y>361206749593600 then 1 else 0
theorem qsq_in {a B:Int} (h:-B≤a∧a≤B):0≤a*a∧a*a≤B*B:=by
 rcases Int.le_total 0 a with h0|h0
 ·have h1:=Int.mul_le_mul_of_nonneg_left h.2 h0
  have h2:=Int.mul_le_mul_of_nonneg_right h.2 (show 0≤B by omega)
  exact⟨Int.mul_nonneg h0 h0,by omega⟩
 ·have h3:(-a)*(-a)=a*a:=Int.neg_mul_neg a a
  have h1:=Int.mul_le_mul_of_nonneg_left (show -a≤B by omega) (show 0≤-a by omega)
  have h2:=Int.mul_le_mul_of_nonneg_right (show -a≤B by omega) (show 0≤B by omega)
  have h4:=Int.mul_nonneg (show 0≤-a by omega) (show 0≤-a by omega)
  omega
noncomputable def qckS:Fsp:=fun _ args k=>match args with
 | [.agg [.int .i64 x,.int .i64 y]]=>k (.ret (.bool (qspB x y)))
 |_=>none
theorem qckS_ok:FspOk Tryz.prog 46 qckS:=tower_Y fsShe0_ok spM0_ok ⟨Tryz.func46,fun _ _=>by kernel_rfl⟩ (by intro α args k; unfold qckS; split<;>rfl) fun args out hSm hEq=>by
 unfold qckS at hEq
 split at hEq
 ·rename_i x y
  refine⟨20,8,((qck_text 20 0 AOut x y some).trans ?_).trans hEq⟩
  unfold qspB
  cases decide (-6553600000≤x)<;>cases decide (x≤6553600000)<;>cases decide (-6553600000≤y)<;>rfl
 ·cases hEq
noncomputable def qzoS:Fsp:=fun _ args k=>match args with
 | [.agg [.int .i64 x,.int .i64 y]]=>bif qspB x y then k (.ret (.int .i64 (qzn x y))) else none
 |_=>none
theorem qzoS_ok:FspOk Tryz.prog 47 qzoS:=tower_Y fsShe0_ok spM0_ok ⟨Tryz.func47,fun _ _=>by kernel_rfl⟩ (by intro α args k; unfold qzoS; split<;>simp only[cond_bind,Option.bind_some,Option.bind_none]) fun args out hSm hEq=>by
 unfold qzoS at hEq
 split at hEq
 ·rename_i x y
  cases hb:qspB x y
  ·rw[hb] at hEq; cases hEq
  rw[hb] at hEq
  refine⟨20,8,((qzo_text 20 0 AOut x y some).trans ?_).trans hEq⟩
  obtain⟨hx,hy⟩:=qsp_in hb
  have hz:=qsz_in x
  rw[qsz_ok (x:=x) (by omega),qi64 (qsz x+9502720) (by omega),qi64 (y-9502720) (by omega),qi64 (y+9502720) (by omega)]
  unfold qzn
  by_cases h1:qsz x+9502720≥155648000
  ·rw[if_pos h1,decide_eq_true h1]; rfl
  ·rw[if_neg h1,decide_eq_false h1,cond_false]
   by_cases h2:y-9502720>119865344
   ·rw[if_pos h2,decide_eq_true h2]; rfl
   ·rw[if_neg h2,decide_eq_false h2,cond_false]
    by_cases h3:y-9502720≤-419495936
    ·rw[if_pos h3,decide_eq_true h3]; rfl
    ·rw[if_neg h3,decide_eq_false h3,cond_false]
     have s1:=qsq_in (a:=x) (B:=155648000) (by omega)
     have s2:=qsq_in (a:=y) (B:=419495936) (by omega)
     rw[qi64 (x*x) (by omega),qi64 (y*y) (by omega),qi64 (x*x+y*y) (by omega)]
     by_cases h4:x*x+y*y≤16736095983108096
     ·rw[if_pos h4,decide_eq_true h4]; rfl
     ·rw[if_neg h4,decide_eq_false h4,cond_false]
      by_cases h5:y+9502720<0
      ·rw[if_pos h5,decide_eq_true h5]; rfl
      ·rw[if_neg h5,decide_eq_false h5]; rfl
 ·cases hEq
noncomputable def qcoS:Fsp:=fun _ args k=>match args with
 | [.agg [.int .i64 x,.int .i64 y],.agg [.int .i64 u,.int .i64 v]]=>bif qspB x y&&qspB u v then k (.ret (.int .i64 (qcn (x-u) (y-v)))) else none
 |_=>none
theorem qcoS_ok:FspOk Tryz.prog 85 qcoS:=tower_Y fsShe0_ok spM0_ok ⟨Tryz.func85,fun _ _=>by kernel_rfl⟩ (by intro α args k; unfold qcoS; split<;>simp only[cond_bind,Option.bind_some,Option.bind_none]) fun args out hSm hEq=>by
 unfold qcoS at hEq
 split at hEq
 ·rename_i x y u v
  cases hb:qspB x y&&qspB u v
  ·rw[hb] at hEq; cases hEq
  rw[hb] at hEq
  rw[Bool.and_eq_true] at hb
  refine⟨20,8,((qco_text 20 0 AOut x y u v some).trans ?_).trans hEq⟩
  obtain⟨hx,hy⟩:=qsp_in hb.1
  obtain⟨hu,hv⟩:=qsp_in hb.2
  rw[qi64 (x-u) (by omega),qi64 (y-v) (by omega)]
  generalize hX:x-u=X
  generalize hY:y-v=Y
  rw[qsz_ok (x:=X) (by omega),qsz_ok (x:=Y) (by omega)]
  change (bif decide (qmx (qsz X) (qsz Y)>19005440) then _ else _)=_
  have z1:=qsz_in X
  have z2:=qsz_in Y
  unfold qcn
  by_cases h1:qmx (qsz X) (qsz Y)>19005440
  ·rw[if_pos h1,decide_eq_true h1]; rfl
  ·rw[if_neg h1,decide_eq_false h1,cond_false]
   have h1':qsz X≤19005440∧qsz Y≤19005440:=by
    unfold qmx at h1
    split at h1<;>omega
   have s1:=qsq_in (a:=X) (B:=19005440) (by omega)
   have s2:=qsq_in (a:=Y) (B:=19005440) (by omega)
   rw[qi64 (X*X) (by omega),qi64 (Y*Y) (by omega),qi64 (X*X+Y*Y) (by omega)]
   by_cases h2:X*X+Y*Y<361206749593600
   ·rw[if_pos h2,decide_eq_true h2]; rfl
   ·rw[if_neg h2,decide_eq_false h2,cond_false]
    by_cases h3:X*X+Y*Y>361206749593600
    ·rw[if_pos h3,decide_eq_true h3]; rfl
    ·rw[if_neg h3,decide_eq_false h3]; rfl
 ·cases hEq
def WpR (P:Program) (c:Code) (Q:Exit→Act→World→Prop) (a:Act) (w:World):Prop:=∀b:Frame,FnIn b.fn→b.roundOf=none→WpB b P c Q a w
theorem wpB_mono {b:Frame} {P:Program} {c:Code} {Q Q':Exit→Act→World→Prop} {a:Act} {w:World} (h:WpB b P c Q a w) (f:∀e a w,Q e a w→Q' e a w):WpB b P c Q' a w:=fun k cs=>
 let ⟨e,a',w',q,r⟩:=h k cs
 ⟨e,a',w',f e a' w' q,r⟩
section
variable {P:Program} {Q:Exit→Act→World→Prop} {a:Act} {w:World}
theorem wpR_seq {x y:Code} (h:WpR P x (Exit.then (WpR P y Q) Q) a w):WpR P (.seq x y) Q a w:=fun b hx hr=>wpB_seq (wpB_mono (h b hx hr) fun e a' w' q=>by
 cases e with
 |normal=>exact q b hx hr
 |_=>exact q)
theorem wpR_cond {o:Operand} {x y:Code} {t:Bool} (hc:a.eval o=.bool t) (h:WpR P (if t then x else y) Q a w):WpR P (.cond o x y) Q a w:=fun b hx hr=>wpB_cond hc (h b hx hr)
theorem wpR_block {id:Nat} {x:Code} (h:WpR P x (Exit.inBlock id Q) a w):WpR P (.block id x) Q a w:=fun b hx hr=>wpB_block (h b hx hr)
theorem wpR_exit {id:Nat} (h:Q (.exit id) a w):WpR P (.exit id) Q a w:=fun _ _ _=>wpB_of (wpIn_exit h)
theorem wpR_skip (h:Q .normal a w):WpR P .skip Q a w:=fun _ _ _=>wpB_of (wpIn_skip h)
theorem wpR_region {id:Nat} {ops:Array Oper} (h:wpOpsIn (FW none) 0 P ops Q (List.range ops.size) a w):WpR P (.region id ops false) Q a w:=fun b _ hr=>wpB_of (by rw[hr]; exact wpIn_region h)
theorem wpR_loop {c:Code} (I:Act→World→Prop) (μ:Act→World→Nat) (h0:I a w) (round:∀a w,I a w→WpR P c (Exit.then (fun a' w'=>I a' w'∧μ a' w'<μ a w) Q) a w):WpR P (.loop c) Q a w:=fun b hx hr=>by
 have key:∀m a w,μ a w<m→I a w→RoundsB b P c Q m a w:=by
  intro m
  induction m with
  |zero=>intro a w hm _; exact absurd hm (Nat.not_lt_zero _)
  |succ m ih=>
   intro a w hm hI
   exact wpB_mono (round a w hI b hx hr) fun e a' w' q=>by
    cases e with
    |normal=>exact ih a' w' (by have:=q.2; omega) q.1
    |_=>exact q
 exact wpB_loop _ (key (μ a w+1) a w (Nat.lt_succ_self _) h0)
end
section
variable {P:Program} {T:Tab} {env:Env} {K0:Nat→Prop} {g0:Gh} {w0:World}
structure Mid (K0:Nat→Prop) (g0:Gh) (w0:World) (h:List ABlk) (tm:List AVal) (a:Act) (w:World) (K:Nat→Prop) (g:Gh):Prop where
 kk:∀b,K0 b→K b
 st:St K h g w
 le:Le K0 [] g0 w0 h g w
 tr:TRep h g w tm a.tmps
 df:MRep K0 K g w a.defers
theorem mid_seq (hm:P.follows .mixedOrders=true) (hT:TabOk P T) (hE:EnvOk P env) {N:Nat} {p q:Code} {h h2:List ABlk} {tm tm2:List AVal} (hp:ev real T env N p ⟨tm,h⟩ pairE=some (.normal,⟨tm2,h2⟩))
  {a:Act} {w:World} {K:Nat→Prop} {g:Gh} {Q:Exit→Act→World→Prop} (m:Mid K0 g0 w0 h tm a w K g) (next:∀a' w' K' g',(∀b,K b→K' b)→Mid K0 g0 w0 h2 tm2 a' w' K' g'→WpR P q Q a' w'):WpR P (Code.seq p q) Q a w:=
 wpR_seq fun b hx hr=>(ev_wp (b:=b) (K0:=K0) hm hT hE hx N p ⟨tm,h⟩ .normal ⟨tm2,h2⟩ a w g K _ (fun _=>m.kk) (fun h=>by rw[hr] at h; cases h) hp m.st m.tr m.df ⟨fun K' g' a' w' e k1 i1 i2 i3 i4 i5=>by
  rw[xr_normal i5]
  exact next a' w' K' g' k1 ⟨fun b hb=>k1 b (m.kk b hb),i1,m.le.trans (i2.less m.kk),i3,i4⟩⟩)
theorem mid_ret (hm:P.follows .mixedOrders=true) (hT:TabOk P T) (hE:EnvOk P env) {N:Nat} {p:Code} {h h2:List ABlk} {tm tm2:List AVal} (hp:ev real T env N p ⟨tm,h⟩ pairE=some (.ret,⟨tm2,h2⟩))
  {a:Act} {w:World} {K:Nat→Prop} {g:Gh} {Q:Exit→Act→World→Prop} (m:Mid K0 g0 w0 h tm a w K g) (next:∀a' w' K' g',Mid K0 g0 w0 h2 tm2 a' w' K' g'→Q .ret a' w'):WpR P p Q a w:=
 fun b hx hr=>ev_wp (b:=b) (K0:=K0) hm hT hE hx N p ⟨tm,h⟩ .ret ⟨tm2,h2⟩ a w g K _ (fun _=>m.kk) (fun h=>by rw[hr] at h; cases h) hp m.st m.tr m.df ⟨fun K' g' a' w' e k1 i1 i2 i3 i4 i5=>by
  rw[xr_ret i5]
  exact next a' w' K' g' ⟨fun b hb=>k1 b (m.kk b hb),i1,m.le.trans (i2.less m.kk),i3,i4⟩⟩
theorem mid_ops (hT:TabOk P T) (hE:EnvOk P env) {ops:Array Oper} {rest:List Oper} {i:Nat} (hr:ops.toList.drop i=rest) {h h2:List ABlk} {tm tm2:List AVal} (hp:evOps real T env false ops rest ⟨tm,h⟩ pairE=some (.normal,⟨tm2,h2⟩))
  {a:Act} {w:World} {K:Nat→Prop} {g:Gh} {Q:Exit→Act→World→Prop} (m:Mid K0 g0 w0 h tm a w K g) (next:∀a' w' g',Le K h g w h2 g' w'→a'.defers=a.defers→Mid K0 g0 w0 h2 tm2 a' w' K g'→Q .normal a' w'):wpOpsIn (FW none) 0 P ops Q (List.range' i rest.length) a w:=
 evOps_wp hT hE false pairE h g w a.defers ⟨fun x st' g' a' w' e hk s l t hd xr=>by
  cases hk
  rw[xr_normal xr]
  exact next a' w' g' l hd ⟨m.kk,s,m.le.trans (l.less m.kk),t,by rw[hd]; exact m.df.mono l⟩⟩ rest i _ a w g hr hp m.st .refl m.tr rfl
theorem mid_op (hT:TabOk P T) (hE:EnvOk P env) {o:Oper} {h h2:List ABlk} {tm:List AVal} {v:AVal} (hp:evOp real T env false o ⟨tm,h⟩ (fun x v s=>some (x,v,s))=some (.normal,v,⟨tm,h2⟩))
  {a:Act} {w:World} {K:Nat→Prop} {g:Gh} {Nx:Act→World→Prop} {Q:Exit→Act→World→Prop} (m:Mid K0 g0 w0 h tm a w K g) (next:∀x w' g',Le K h g w h2 g' w'→Mid K0 g0 w0 h2 ((⟨tm,h2⟩:AS).put o.dst v).tmps (a.put o.dst x) w' K g'→Nx (a.put o.dst x) w'):o.wpIn (FW none) 0 P a w Nx Q:=
 evOp_wp (ro:=none) (K:=K) (st:=⟨tm,h⟩) (g:=g) (k:=fun x v s=>some (x,v,s)) (r:=(.normal,v,⟨tm,h2⟩)) hT hE m.st m.tr false hp ⟨fun v' st' g' w' x hk htm s l r=>by
  cases hk
  refine next x w' g' l ⟨m.kk,s,m.le.trans (l.less m.kk),?_,by rw[put_defers]; exact m.df.mono l⟩
  exact TRep.put (s:=⟨tm,h2⟩) (m.tr.mono l) o.dst r,fun v' u st' g' w' x hk _ _ _ _=>by cases hk⟩
def keepT (keep:List Nat):Nat→List AVal→List AVal
 |_,[]=>[]
 |i,v::r=>(bif keep.contains i then v else .any)::keepT keep (i+1) r
theorem keepT_get (keep:List Nat):∀(l:List AVal) (n j:Nat),(keepT keep n l)[j]?=l[j]?∨((keepT keep n l)[j]?=some .any∧j<l.length)
 | [],_,_=>.inl rfl
 |v::r,n,0=>by
  rw[keepT]
  cases keep.contains n
  ·exact .inr ⟨rfl,Nat.succ_pos _⟩
  ·exact .inl rfl
 |v::r,n,j+1=>by
  rw[keepT,List.getElem?_cons_succ,List.getElem?_cons_succ]
  exact (keepT_get keep r (n+1) j).imp id fun h=>⟨h.1,Nat.succ_lt_succ h.2⟩
theorem keepT_len (keep:List Nat):∀(l:List AVal) (n:Nat),(keepT keep n l).length=l.length
 | [],_=>rfl
 |v::r,n=>by rw[keepT,List.length_cons,keepT_len keep r,List.length_cons]
theorem Mid.weak {h tm a w K g} (m:Mid K0 g0 w0 h tm a w K g) (keep:List Nat):Mid K0 g0 w0 h (keepT keep 0 tm) a w K g:=
 ⟨m.kk,m.st,m.le,⟨by rw[keepT_len]; exact m.tr.1,fun j c x hc hx=>by
  rcases keepT_get keep tm 0 j with e|⟨e,_⟩
  ·rw[e] at hc; exact m.tr.2 j c x hc hx
  ·rw[e] at hc; cases hc; exact .any x⟩,m.df⟩
theorem Mid.turn {h tm a w K g} (m:Mid K0 g0 w0 h tm a w K g) {w':World} {r:Nat} (hos:w'.os=w.os) (hta:w'.tape=w.tape) (hou:w'.output=w.output) (hsz:w.heap.size≤w'.heap.size) (hw:∀n,n<w.heap.size→n≠r→w'.heap[n]?=w.heap[n]?)
  (h1:¬K r) (h2:¬g.M r) (h3:∀i,alive h i→blockOf (g.ρ i)≠some r):Mid K0 g0 w0 h tm a w' K g:=by
 have l:Le K h g w h g w':=⟨Nat.le_refl _,fun _ h=>h,fun _ h=>h,fun _ h=>.inl h,fun b hb=>hw b (m.st.low b hb) fun e=>h2 (e▸hb),fun b hb=>hw b (m.st.klow b hb) fun e=>h1 (e▸hb),fun _ wr cs' _ h=>⟨wr,cs',h,rfl,rfl⟩,fun _ wr _ _ xs' _ h=>⟨wr,xs',h,fun _=>rfl,rfl⟩,fun _ st pend _ _ _ _ _ h=>⟨st,pend,h,rfl⟩,fun _ _ h=>h,fun _ _ _ _ h=>h,hos,hta,hou,hsz⟩
 refine⟨m.kk,⟨fun i b hb=>(m.st.blk i b hb).mono l rfl fun n hd hn=>?_,m.st.inj,fun i b ha hb=>?_,fun b hb=>Nat.lt_of_lt_of_le (m.st.low b hb) hsz,fun b hb=>Nat.lt_of_lt_of_le (m.st.klow b hb) hsz⟩,m.le.trans (l.less m.kk),m.tr.mono l,m.df.mono l⟩
 ·exact hw n (m.st.sep i n ⟨b,hb,hd⟩ hn).2.2 fun e=>h3 i ⟨b,hb,hd⟩ (e▸hn)
 ·obtain⟨q1,q2,q3⟩:=m.st.sep i b ha hb
  exact⟨q1,q2,Nat.lt_of_lt_of_le q3 hsz⟩
theorem Mid.lock {h tm a w K g} (m:Mid K0 g0 w0 h tm a w K g) {r:Nat} (hr:r<w.heap.size) (h3:∀i,alive h i→blockOf (g.ρ i)≠some r):Mid K0 g0 w0 h tm a w (fun b=>K b∨b=r) g:=
 ⟨fun b hb=>.inl (m.kk b hb),⟨m.st.blk,m.st.inj,fun i b ha hb=>by
  obtain⟨q1,q2,q3⟩:=m.st.sep i b ha hb
  exact⟨fun h=>h.elim q1 fun e=>h3 i ha (e▸hb),q2,q3⟩,m.st.low,fun b hb=>hb.elim (m.st.klow b) fun e=>e▸hr⟩,m.le,m.tr,m.df.more fun b hb=>.inl hb⟩
theorem Mid.unlock {h tm a w K K' g} (m:Mid K0 g0 w0 h tm a w K' g) (hk:∀b,K b→K' b) (h0:∀b,K0 b→K b) (hd:MRep K0 K g w a.defers):Mid K0 g0 w0 h tm a w K g:=
 ⟨h0,m.st.less hk,m.le,m.tr,hd⟩
theorem Mid.put {h tm a w K g} (m:Mid K0 g0 w0 h tm a w K g) (dst:Option Nat) {v:AVal} {x:Value} (r:Rep h g w v x):Mid K0 g0 w0 h ((⟨tm,h⟩:AS).put dst v).tmps (a.put dst x) w K g:=
 ⟨m.kk,m.st,m.le,TRep.put (s:=⟨tm,h⟩) m.tr dst r,by rw[put_defers]; exact m.df⟩
theorem wpOps_cons {ops:Array Oper} {o:Oper} {i:Nat} {l:List Nat} {a:Act} {w:World} {Q:Exit→Act→World→Prop} (h:ops[i]?=some o) (hg:o.guard=none) (hw:o.wpIn (FW none) 0 P a w (wpOpsIn (FW none) 0 P ops Q l) Q):wpOpsIn (FW none) 0 P ops Q (i::l) a w:=by
 simp only[wpOpsIn,h]
 rw[if_pos (by simp[Region.wanted,hg])]
 exact hw
end
theorem put_getD (a:Act) (dst:Option Nat) (v:Value) {t:Nat} (h:dst≠some t):(a.put dst v).tmps.getD t Go.undef=a.tmps.getD t Go.undef:=by
 cases dst with
 |none=>rfl
 |some d=>
  have hd:d≠t:=fun e=>h (e▸rfl)
  show (a.tmps.setIfInBounds d v).getD t Go.undef=_
  rw[Array.getD_eq_getD_getElem?,Array.getD_eq_getD_getElem?,Array.getElem?_setIfInBounds,if_neg hd]
theorem put_getD_same (a:Act) (d:Nat) (v:Value) (h:d<a.tmps.size):(a.put (some d) v).tmps.getD d Go.undef=v:=by
 show (a.tmps.setIfInBounds d v).getD d Go.undef=_
 rw[Array.getD_eq_getD_getElem?,Array.getElem?_setIfInBounds,if_pos rfl,if_pos h]; rfl
theorem opIn_frame {F:Fence} {n:Nat} {P:Program} {o:Oper} {a:Act} {w:World} {nx nx':Act→World→Prop} {Q Q':Exit→Act→World→Prop} {t:Nat} (hd:o.dst≠some t) (h:o.wpIn F n P a w nx Q)
  (hn:∀a' w',nx a' w'→a'.tmps.getD t Go.undef=a.tmps.getD t Go.undef→nx' a' w') (hq:∀e a' w',e≠.normal→Q e a' w'→Q' e a' w'):o.wpIn F n P a w nx' Q':=by
 refine⟨h.1,?_⟩
 obtain⟨_,h2⟩:=h
 generalize (o.semAt F.round a.eval).run P w=r at h2
 have lo:LetsOut Q→LetsOut Q':=fun ⟨a',w',h⟩=>⟨a',w',hq _ _ _ (by simp) h⟩
 unfold Oper.uponIn at h2 ⊢
 split at h2
 ·exact hn _ _ h2 (put_getD _ _ _ hd)
 ·exact hn _ _ h2 (put_getD _ _ _ hd)
 ·exact hn _ _ h2 (put_getD { a with defers:=_ } _ _ hd)
 ·refine⟨h2.1,CallsIn.mono h2.2 fun e w' he=>?_⟩
  cases e with
  |returned v=>exact hn _ _ he (put_getD _ _ _ hd)
  |panicked c=>exact hq _ _ _ (by simp) he
  |outgrown=>exact lo he
 ·exact⟨h2.1,RowsIn.mono h2.2 fun v w' he=>hn _ _ he (put_getD _ _ _ hd)⟩
 ·refine⟨h2.1,RoundIn.mono h2.2 fun e w' he=>?_⟩
  cases e with
  |returned v=>exact hn _ _ he (put_getD _ _ _ hd)
  |panicked c=>exact hq _ _ _ (by simp) he
  |outgrown=>exact lo he
 ·exact hq _ _ _ (by simp) h2
 ·exact h2.elim
theorem opsIn_frame {F:Fence} {n:Nat} {P:Program} {ops:Array Oper} {Q Q':Exit→Act→World→Prop} {t:Nat} {y:Value} (hd:∀(i:Nat) o,ops[i]?=some o→o.dst≠some t)
  (hn:∀a' w',Q .normal a' w'→a'.tmps.getD t Go.undef=y→Q' .normal a' w') (hq:∀e a' w',e≠.normal→Q e a' w'→Q' e a' w'):∀(l:List Nat) (a:Act) (w:World),a.tmps.getD t Go.undef=y→wpOpsIn F n P ops Q l a w→wpOpsIn F n P ops Q' l a w
 | [],a,w,e,h=>hn a w h e
 |i::r,a,w,e,h=>by
  unfold wpOpsIn at h ⊢
  split at h
  ·exact opsIn_frame hd hn hq r a w e h
  ·rename_i o ho
   split at h
   ·rename_i hw
    rw[if_pos hw]
    exact opIn_frame (hd i o ho) h (fun a' w' hx he=>opsIn_frame hd hn hq r a' w' (he.trans e) hx) hq
   ·rename_i hw
    rw[if_neg hw]
    exact⟨h.1,opsIn_frame hd hn hq r _ _ ((put_getD _ _ _ (hd i o ho)).trans e) h.2⟩
theorem put_size (a:Act) (dst:Option Nat) (v:Value):(a.put dst v).tmps.size=a.tmps.size:=by
 cases dst with
 |none=>rfl
 |some d=>show (a.tmps.setIfInBounds d v).size=_; exact Array.size_setIfInBounds
theorem mid_opsT {P:Program} {T:Tab} {env:Env} {K0:Nat→Prop} {g0:Gh} {w0:World} (hT:TabOk P T) (hE:EnvOk P env) {ops:Array Oper} {rest:List Oper} {i:Nat} (hr:ops.toList.drop i=rest) {h h2:List ABlk} {tm tm2:List AVal} (hp:evOps real T env false ops rest ⟨tm,h⟩ pairE=some (.normal,⟨tm2,h2⟩))
  {t:Nat} (hd:∀(i:Nat) o,ops[i]?=some o→o.dst≠some t) {a:Act} {w:World} {K:Nat→Prop} {g:Gh} {Q:Exit→Act→World→Prop} (m:Mid K0 g0 w0 h tm a w K g)
  (next:∀a' w' g',Le K h g w h2 g' w'→a'.defers=a.defers→a'.tmps.getD t Go.undef=a.tmps.getD t Go.undef→Mid K0 g0 w0 h2 tm2 a' w' K g'→Q .normal a' w'):wpOpsIn (FW none) 0 P ops Q (List.range' i rest.length) a w:=
 opsIn_frame (Q:=fun e a' w'=>e=.normal∧∃g',Le K h g w h2 g' w'∧a'.defers=a.defers∧Mid K0 g0 w0 h2 tm2 a' w' K g') (y:=a.tmps.getD t Go.undef) hd
  (fun a' w' ⟨_,g',l,d,m'⟩ e=>next a' w' g' l d e m') (fun e a' w' hne hx=>absurd hx.1 hne) _ a w rfl (mid_ops hT hE hr hp m fun a' w' g' l d m'=>⟨rfl,g',l,d,m'⟩)
theorem rep_roM {e:Sh} (hf:∀x,∀c∈e.cells x,c.flat0=true) {h h':List ABlk} {g g':Gh} {w:World} {xs:List e.ty} {x:Value} (r:Rep h g w (.ro e xs) x) (hM:∀b,g.M b→g'.M b):Rep h' g' w (.ro e xs) x:=by
 cases r with
 |ro0 _ p c hc hc'=>exact .ro0 e p c hc hc'
 |ro1 _ _ b o c us h0 h1 h2 hm hc hr=>exact .ro1 e xs b o c us h0 h1 h2 (hM b hm) hc fun n x j cc a a'=>rep_flat0 (hr n x j cc a a') (hf x cc (List.mem_of_getElem? a'))
section
variable {K0:Nat→Prop} {g0:Gh} {w0:World}
theorem Mid.one {h tm a w K g} (m:Mid K0 g0 w0 h tm a w K g) {i:Nat} {t:TypeId} {e:Sh} {xs:List e.ty} (h0:0<e.size) (hf:∀x,∀c∈e.cells x,c.flat0=true) (hi:h[i]?=some (.row true t e xs)) {tm':List AVal}
  (ht:TRep [.row true t e xs] ⟨fun _=>g.ρ i,g.M⟩ w tm' a.tmps):Mid K0 g0 w0 [.row true t e xs] tm' a w K ⟨fun _=>g.ρ i,g.M⟩:=by
 have al:alive h i:=⟨_,hi,by simp⟩
 have one:∀(j:Nat) (b:ABlk),([.row true t e xs]:List ABlk)[j]?=some b→b=.row true t e xs:=fun j b hb=>by
  cases j with
  |zero=>simpa using hb.symm
  |succ j=>simp at hb
 have aj:∀j:Nat,alive [.row true t e xs] j→j=0:=fun j ⟨b,hb,_⟩=>by
  cases j with
  |zero=>rfl
  |succ j=>simp at hb
 refine⟨m.kk,⟨fun j b hb=>?_,fun j k b hj hk _ _=>by rw[aj j hj,aj k hk],fun j b hj hb=>m.st.sep i b al hb,m.st.low,m.st.klow⟩,?_,ht,m.df⟩
 ·rw[one j b hb]
  obtain⟨vs,h1,h2⟩:=(rowOk_iff h0).1 (m.st.blk i _ hi)
  refine (rowOk_iff (h:=[.row true t e xs]) (g:=⟨fun _=>g.ρ i,g.M⟩) h0).2 ⟨vs,h1,fun n x j c hx hc=>?_⟩
  obtain⟨u,q1,q2⟩:=h2 n x j c hx hc
  exact⟨u,q1,rep_flat0 q2 (hf x c (List.mem_of_getElem? hc))⟩
 ·have l:=m.le
  exact⟨Nat.zero_le _,fun j hj=>absurd hj.lt (Nat.not_lt_zero j),l.m,l.new,l.mw,l.k,fun j _ _ hj=>absurd hj.lt (Nat.not_lt_zero j),fun j _ _ _ _ hj=>absurd hj.lt (Nat.not_lt_zero j),fun j _ _ _ _ _ _ hj=>absurd hj.lt (Nat.not_lt_zero j),fun j _ hj=>by simp at hj,fun j _ _ _ hj=>by simp at hj,l.os,l.tape,l.output,l.size⟩
def gNone:Gh:=⟨fun _=>Go.undef,fun _=>False⟩
theorem Mid.oneN {h tm a w K g} (m:Mid K0 g0 w0 h tm a w K g) {i:Nat} {t:TypeId} {e:Sh} {xs:List e.ty} (h0:0<e.size) (hf:∀x,∀c∈e.cells x,c.flat0=true) (hi:h[i]?=some (.row true t e xs)) {tm':List AVal}
  (ht:TRep [.row true t e xs] ⟨fun _=>g.ρ i,fun _=>False⟩ w tm' a.tmps):Mid K0 gNone w0 [.row true t e xs] tm' a w K ⟨fun _=>g.ρ i,fun _=>False⟩:=by
 have al:alive h i:=⟨_,hi,by simp⟩
 have one:∀(j:Nat) (b:ABlk),([.row true t e xs]:List ABlk)[j]?=some b→b=.row true t e xs:=fun j b hb=>by
  cases j with
  |zero=>simpa using hb.symm
  |succ j=>simp at hb
 have aj:∀j:Nat,alive [.row true t e xs] j→j=0:=fun j ⟨b,hb,_⟩=>by
  cases j with
  |zero=>rfl
  |succ j=>simp at hb
 refine⟨m.kk,⟨fun j b hb=>?_,fun j k b hj hk _ _=>by rw[aj j hj,aj k hk],fun j b hj hb=>?_,fun _ h=>h.elim,m.st.klow⟩,?_,ht,?_⟩
 ·rw[one j b hb]
  obtain⟨vs,h1,h2⟩:=(rowOk_iff h0).1 (m.st.blk i _ hi)
  refine (rowOk_iff (h:=[.row true t e xs]) (g:=⟨fun _=>g.ρ i,fun _=>False⟩) h0).2 ⟨vs,h1,fun n x j c hx hc=>?_⟩
  obtain⟨u,q1,q2⟩:=h2 n x j c hx hc
  exact⟨u,q1,rep_flat0 q2 (hf x c (List.mem_of_getElem? hc))⟩
 ·obtain⟨q1,_,q3⟩:=m.st.sep i b al hb
  exact⟨q1,fun h=>h.elim,q3⟩
 ·have l:=m.le
  exact⟨Nat.zero_le _,fun j hj=>absurd hj.lt (Nat.not_lt_zero j),fun _ h=>h.elim,fun _ h=>h.elim,fun _ h=>h.elim,l.k,fun j _ _ hj=>absurd hj.lt (Nat.not_lt_zero j),fun j _ _ _ _ hj=>absurd hj.lt (Nat.not_lt_zero j),fun j _ _ _ _ _ _ hj=>absurd hj.lt (Nat.not_lt_zero j),fun j _ hj=>by simp at hj,fun j _ _ _ hj=>by simp at hj,l.os,l.tape,l.output,l.size⟩
 ·obtain⟨rs,n1,n2,n3⟩:=m.df
  exact⟨rs,n1,n2,fun r hr=>let ⟨q1,q2,_,q4⟩:=n3 r hr; ⟨q1,q2,fun h=>h.elim,q4⟩⟩
theorem Mid.stay {h tm a w K g} (m:Mid K0 g0 w0 h tm a w K g) {i b:Nat} (hi:alive h i) (hb:blockOf (g.ρ i)=some b) {tm':List AVal} (ht:TRep [.dead] ⟨g.ρ,fun n=>g.M n∨n=b⟩ w tm' a.tmps):Mid K0 g0 w0 [.dead] tm' a w K ⟨g.ρ,fun n=>g.M n∨n=b⟩:=by
 obtain⟨s1,s2,s3⟩:=m.st.sep i b hi hb
 have dd:∀j:Nat,¬alive [.dead] j:=fun j ⟨c,hc,hn⟩=>by
  cases j with
  |zero=>simp at hc; exact hn hc.symm
  |succ j=>simp at hc
 have l:=m.le
 refine⟨m.kk,⟨fun j c hc=>?_,fun j k _ hj=>absurd hj (dd j),fun j _ hj=>absurd hj (dd j),fun n hn=>hn.elim (m.st.low n) fun e=>e▸s3,m.st.klow⟩,⟨Nat.zero_le _,fun j hj=>absurd hj.lt (Nat.not_lt_zero j),fun n hn=>.inl (l.m n hn),fun n hn=>hn.elim (l.new n) fun e=>.inr fun hk=>s1 (e▸m.kk n hk),l.mw,l.k,fun j _ _ hj=>absurd hj.lt (Nat.not_lt_zero j),fun j _ _ _ _ hj=>absurd hj.lt (Nat.not_lt_zero j),fun j _ _ _ _ _ _ hj=>absurd hj.lt (Nat.not_lt_zero j),fun j _ hj=>by simp at hj,fun j _ _ _ hj=>by simp at hj,l.os,l.tape,l.output,l.size⟩,ht,?_⟩
 ·cases j with
  |zero=>simp at hc; subst hc; trivial
  |succ j=>simp at hc
 ·obtain⟨rs,n1,n2,n3⟩:=m.df
  refine⟨rs,n1,n2,fun r hr=>?_⟩
  obtain⟨q1,q2,q3,q4⟩:=n3 r hr
  exact⟨q1,q2,fun h=>h.elim q3 fun e=>s1 (e▸q1),q4⟩
theorem body_midN {P:Program} {T:Tab} (hT:TabOk P T) {f:FuncId} {fn:Func} (hf:P.funcs[f]?=some fn) {c:Code} (hc:fn.body=some c) {args:List AVal} {h1:List ABlk} {tm1:List AVal} {vs:List AVal} (hvs:resOf T ⟨tm1,h1⟩ fn.results.toList=some vs)
  {K:Nat→Prop} {g g2:Gh} {w:World} {cargs:Array Value} (hs:St K [] g w) (hl:args.length=cargs.size) (hr:∀(j:Nat) c z,args[j]?=some c→cargs[j]?=some z→Rep [] g w c z)
  (run:∀(a:Act) (Q:Exit→Act→World→Prop),Mid K g w [] (args++List.replicate (fn.ntmps-args.length) .undef) a w K g→(∀a' w' K' g',Mid K g2 w h1 tm1 a' w' K' g'→Q .ret a' w')→WpR P c Q a w) :
  Calls P f cargs w (CvPost K [] g2 w h1 .normal (match (generalizing:=false) vs with|[v]=>v|vs=>.tup vs)):=by
 refine calls_of_wpB hf hc fun b hbf hbr=>run _ _ ⟨fun _ h=>h,hs,.refl,⟨by simp[hl],fun j c x hc hx=>?_⟩,MRep.nil⟩ (fun a' w' K' g' m=>?_) b ⟨fn,by rw[hbf,←hT.pr]; exact hf⟩ hbr
 ·rcases Nat.lt_or_ge j args.length with hj|hj
  ·rw[List.getElem?_append_left hj] at hc
   rw[Array.getElem?_append_left (by omega)] at hx
   exact hr j c x hc hx
  ·rw[List.getElem?_append_right hj,List.getElem?_replicate] at hc
   rw[Array.getElem?_append_right (by omega),Array.getElem?_replicate] at hx
   split at hc
   ·cases hc
    split at hx
    ·cases hx; exact .undef
    ·cases hx
   ·cases hc
 ·obtain⟨rs,n1,n2,n3⟩:=m.df
  show LeavesInM (FW none) 0 P fn a'.tmps (CvPost K [] g2 w h1 .normal _) a'.defers .returning w'
  rw[n2]
  refine leaves_marks (by simp) m.kk rs w' n1 n3 m.st m.le fun w2 j1 j2 j3=>?_
  obtain⟨z,e1,e2⟩:=results_rep hT j1 (m.tr.mono j3) hvs
  exact⟨z,e1,g',j1.less m.kk,j2,z,rfl,e2⟩
structure FspNew (P:Program) (f:FuncId) (S:Fsp):Prop where
 enter:∀args w,(callFunc f args).run P w=.ok (.enter f args) w
 nat:∀(α:Type) args (k:AOut→Option α),S α args k=(S AOut args some).bind k
 calls:∀args out,S AOut args some=some out→∀(M:Nat→Prop) w (cargs:Array Value),(∀b,M b→b<w.heap.size)→args.length=cargs.size →
  (∀(j:Nat) c x,args[j]?=some c→cargs[j]?=some x→Rep [] ⟨fun _=>Go.undef,M⟩ w c x)→Calls P f cargs w (CPost (fun _=>False) w out)
theorem CPost.more {M:Nat→Prop} {w:World} {out:AOut} {e:Ending} {w':World} (hM:∀b,M b→b<w.heap.size) (h:CPost (fun _=>False) w out e w'):CPost M w out e w':=by
 obtain⟨M',m1,m2,m3,hb,ho⟩:=h
 refine⟨fun b=>M b∨M' b,fun _ h=>.inl h,fun b h=>h.elim .inl fun h=>(m2 b h).elim (fun f=>f.elim) .inr,fun b h=>h.elim (fun h=>Nat.lt_of_lt_of_le (hM b h) hb.size) (m3 b),hb,?_⟩
 cases out with
 |ret v=>obtain⟨x,e1,e2⟩:=ho; exact⟨x,e1,rep_nil e2 fun _ h=>.inr h⟩
 |pan v=>obtain⟨x,e1,e2⟩:=ho; exact⟨x,e1,rep_nil e2 fun _ h=>.inr h⟩
theorem FspNew.ok {P:Program} {f:FuncId} {S:Fsp} (h:FspNew P f S):FspOk P f S:=
 ⟨h.enter,h.nat,fun args out ho M w cargs hM hl hr=>(h.calls args out ho M w cargs hM hl hr).mono fun e w' hp=>hp.more hM⟩
end
def ansO (v e:Int):AOut:=.ret (.tup [.int .i64 v,.int .i64 e])
/-! The reference. -/
/-! The reference's bounds. -/
noncomputable def fsM2:FuncId→Option Fsp:=fun g=>
 if g=108 then some mbndS else
 fsM1 g
theorem fsM2_ok:FsOk fsM2:=
 fs_cons mbndS_ok <|
 fsM1_ok
def mustN (l:List RdI) (m:Int):Nat:=l.countP fun r=>decide (r.hi≤m)
def canN (l:List RdI) (m:Int):Nat:=l.countP fun r=>decide (r.lo≤m)
def minLo (l:List RdI):Int:=l.foldl (fun a r=>min a r.lo) 129368065
def minHi (l:List RdI):Int:=l.foldl (fun a r=>min a r.hi) 129368064
def awB (l:List RdI):Bool:=!l.any fun r=>decide (r.hi≤129368064)
theorem mustN_add (l:List RdI) (r:RdI) (m:Int):mustN (l++[r]) m=mustN l m+bif decide (r.hi≤m) then 1 else 0:=by
 unfold mustN
 rw[List.countP_append,List.countP_singleton]
 cases decide (r.hi≤m)<;>rfl
theorem canN_add (l:List RdI) (r:RdI) (m:Int):canN (l++[r]) m=canN l m+bif decide (r.lo≤m) then 1 else 0:=by
 unfold canN
 rw[List.countP_append,List.countP_singleton]
 cases decide (r.lo≤m)<;>rfl
theorem mustN_le (l:List RdI) (m:Int):mustN l m≤l.length:=List.countP_le_length
theorem canN_le (l:List RdI) (m:Int):canN l m≤l.length:=List.countP_le_length
abbrev rdG (l:List RdI) (x:Int):RdI:=l.getD x.toNat rdD
def upF {α:Type} (l:List RdI) (m:Int) (x:Int × Int × Int × Unit):Option (LRes (Int × Int × Int × Unit) α):=
 bif decide (x.2.2.1<(l.length:Int)) then
  if 0≤x.2.2.1∧x.2.2.1<(l.length:Int) then
   bif decide ((rdG l x.2.2.1).2.2.1≤m) then
    bif decide ((rdG l x.2.2.1).2.1≤m) then some (.cont (IntKind.i64.wrap (x.1+1),IntKind.i64.wrap (x.2.1+1),IntKind.i64.wrap (x.2.2.1+1),()))
    else some (.cont (IntKind.i64.wrap (x.1+1),x.2.1,IntKind.i64.wrap (x.2.2.1+1),()))
   else bif decide ((rdG l x.2.2.1).2.1≤m) then some (.cont (x.1,IntKind.i64.wrap (x.2.1+1),IntKind.i64.wrap (x.2.2.1+1),()))
   else some (.cont (x.1,x.2.1,IntKind.i64.wrap (x.2.2.1+1),()))
  else none
 else some (.brk 0 (x.1,x.2.1,x.2.2.1,()))
set_option maxRecDepth 100000 in
theorem mup_text (N n0:Nat) (α:Type) (l:List RdI) (m:Int) (k:AOut→Option α):evFn real tab ((twY fsM2 spM0).env real tab N (n0+12)) N Tryz.f112 α [.ro (.recd (.cons (.int .i64) (.cons (.int .i64) (.cons (.int .i64) .nil)))) l,iN m] k =
 afterL (iterL N (upF l m) (0,0,0,())) fun id y=>if id=0 then k (ansO y.1 y.2.1) else none:=by kernel_rfl
theorem upF_eq {α:Type} (l:List RdI) (m:Int) (hl:l.length≤maxLen) {i:Nat} (hi:i<l.length):upF (α:=α) l m ((mustN (l.take i) m:Int),(canN (l.take i) m:Int),(i:Int),())=some (.cont ((mustN (l.take (i+1)) m:Int),(canN (l.take (i+1)) m:Int),((i+1:Nat):Int),())):=by
 unfold upF rdG
 have h1:mustN (l.take i) m≤i:=Nat.le_trans (mustN_le _ m) (List.length_take_le i l)
 have h2:canN (l.take i) m≤i:=Nat.le_trans (canN_le _ m) (List.length_take_le i l)
 simp only[lt_len hi,cond_true,in_len hi,if_pos,and_self,decide_true,Int.toNat_natCast,wrap_next hi hl,take_nextX l rdD hi,mustN_add,canN_add]
 rw[wrap_next (n:=i+1) (by omega:mustN (l.take i) m<i+1) (by omega),wrap_next (n:=i+1) (by omega:canN (l.take i) m<i+1) (by omega)]
 show (bif decide ((l.getD i rdD).hi≤m) then bif decide ((l.getD i rdD).lo≤m) then _ else _ else bif decide ((l.getD i rdD).lo≤m) then _ else _)=_
 cases decide ((l.getD i rdD).hi≤m)<;>cases decide ((l.getD i rdD).lo≤m)<;>rfl
theorem mup_plain {α:Type} (l:List RdI) (m:Int) (hl:l.length≤maxLen) (k:AOut→Option α):(afterL (iterL (l.length+1) (upF l m) (0,0,0,())) fun id y=>if id=0 then k (ansO y.1 y.2.1) else none)=k (ansO (mustN l m) (canN l m)):=by
 refine (count_loop (f:=upF l m) (fun i=>((mustN (l.take i) m:Int),(canN (l.take i) m:Int),(i:Int),())) l.length (fun i hi=>upF_eq l m hl hi) (y:=((mustN l m:Int),(canN l m:Int),(l.length:Int),())) (b:=0) ?_ (by omega)).trans rfl
 unfold upF; simp only[not_lt_len,cond_false,List.take_length]
noncomputable def mupS:Fsp:=fun _ args k=>match args with
 | [.ro (.recd (.cons (.int .i64) (.cons (.int .i64) (.cons (.int .i64) .nil)))) l,.int .i64 m]=>k (ansO (mustN l m) (canN l m))
 |_=>none
theorem mupS_ok:FspOk Tryz.prog 112 mupS:=tower_Y fsM2_ok spM0_ok ⟨Tryz.func112,fun _ _=>by kernel_rfl⟩ (by intro α args k; unfold mupS; split<;>rfl) fun args out hSm hEq=>by
 unfold mupS at hEq
 split at hEq
 ·rename_i l m
  exact⟨l.length+1,12,((mup_text (l.length+1) 0 AOut l m some).trans (mup_plain l m (hSm _ (.head _)).len some)).trans hEq⟩
 ·cases hEq
def neF {α:Type} (f:RdI→Int) (l:List RdI) (x:Int × Int × Unit):Option (LRes (Int × Int × Unit) α):=
 bif decide (x.2.1<(l.length:Int)) then
  if 0≤x.2.1∧x.2.1<(l.length:Int) then some (.cont (if f (rdG l x.2.1)<x.1 then f (rdG l x.2.1) else x.1,IntKind.i64.wrap (x.2.1+1),()))
  else none
 else some (.brk 0 (x.1,x.2.1,()))
set_option maxRecDepth 100000 in
theorem mne_text (N n0:Nat) (α:Type) (l:List RdI) (k:AOut→Option α):evFn real tab ((twY fsM2 spM0).env real tab N (n0+12)) N Tryz.f109 α [.ro (.recd (.cons (.int .i64) (.cons (.int .i64) (.cons (.int .i64) .nil)))) l] k =
 afterL (iterL N (neF (fun r=>r.2.1) l) (129368065,0,())) fun id y=>if id=0 then afterL (iterL N (neF (fun r=>r.2.2.1) l) (129368064,0,())) fun id z=>if id=0 then k
 (ansO y.1 z.1) else none else none:=by kernel_rfl
theorem neF_run {α:Type} (f:RdI→Int) (a:Int) (l:List RdI) (hl:l.length≤maxLen) {N:Nat} (hN:l.length<N) (K:Nat→Int × Int × Unit→Option α):afterL (iterL N (neF f l) (a,0,())) K=K 0 (l.foldl (fun a r=>min a (f r)) a,(l.length:Int),()):=by
 refine (count_loop (f:=neF f l) (fun i=>((l.take i).foldl (fun a r=>min a (f r)) a,(i:Int),())) l.length (fun i hi=>?_) (y:=(l.foldl (fun a r=>min a (f r)) a,(l.length:Int),())) (b:=0) ?_ hN)
 ·unfold neF rdG
  simp only[lt_len hi,cond_true,in_len hi,if_pos,and_self,decide_true,Int.toNat_natCast,wrap_next hi hl,take_nextX l rdD hi,List.foldl_append,List.foldl_cons,List.foldl_nil]
  have:∀p q:Int,(if q<p then q else p)=min p q:=fun p q=>by split<;>omega
  rw[this]
 ·unfold neF; simp only[not_lt_len,cond_false,List.take_length]
noncomputable def mneS:Fsp:=fun _ args k=>match args with
 | [.ro (.recd (.cons (.int .i64) (.cons (.int .i64) (.cons (.int .i64) .nil)))) l]=>k (ansO (minLo l) (minHi l))
 |_=>none
theorem mneS_ok:FspOk Tryz.prog 109 mneS:=tower_Y fsM2_ok spM0_ok ⟨Tryz.func109,fun _ _=>by kernel_rfl⟩ (by intro α args k; unfold mneS; split<;>rfl) fun args out hSm hEq=>by
 unfold mneS at hEq
 split at hEq
 ·rename_i l
  have hl:=(hSm _ (.head _)).len
  refine⟨l.length+1,12,(mne_text (l.length+1) 0 AOut l some).trans (Eq.trans ?_ hEq)⟩
  refine (neF_run _ _ l hl (Nat.lt_succ_self _) _).trans ?_
  simp only[if_true]
  exact (neF_run _ _ l hl (Nat.lt_succ_self _) _).trans rfl
 ·cases hEq
def awF {α:Type} (l:List RdI) (k:AOut→Option α) (x:Int × Unit):Option (LRes (Int × Unit) α):=
 bif decide (x.1<(l.length:Int)) then
  if 0≤x.1∧x.1<(l.length:Int) then
   bif decide ((rdG l x.1).2.2.1≤129368064) then finL (k (b1 (!decide (x.1≥0)))) else some (.cont (IntKind.i64.wrap (x.1+1),()))
  else none
 else some (.brk 0 (x.1,()))
set_option maxRecDepth 100000 in
theorem maw_text (N n0:Nat) (α:Type) (l:List RdI) (k:AOut→Option α):evFn real tab ((twY fsM2 spM0).env real tab N (n0+12)) N Tryz.f110 α [.ro (.recd (.cons (.int .i64) (.cons (.int .i64) (.cons (.int .i64) .nil)))) l] k =
 afterL (iterL N (awF l k) (0,())) fun id _=>if id=0 then k (b1 (!decide (-1≥0))) else none:=by kernel_rfl
noncomputable def mawS:Fsp:=fun _ args k=>match args with
 | [.ro (.recd (.cons (.int .i64) (.cons (.int .i64) (.cons (.int .i64) .nil)))) l]=>k (b1 (awB l))
 |_=>none
theorem maw_plain {α:Type} (l:List RdI) (hl:l.length≤maxLen) (k:AOut→Option α):(afterL (iterL (l.length+1) (awF l k) (0,())) fun id _=>if id=0 then k (b1 (!decide (-1≥0))) else none)=k (b1 (awB l)):=by
 refine (any_loop (f:=awF l k) (fun i:Nat=>((i:Int),())) l.length (fun i=>decide ((l.getD i rdD).hi≤129368064)) (k (b1 false)) (fun i hi=>?_) (y:=((l.length:Int),())) (b:=0) ?_).trans ?_
 ·unfold awF rdG
  have h0:decide ((i:Int)≥0)=true:=decide_eq_true (by omega)
  simp only[lt_len hi,cond_true,in_len hi,if_pos,and_self,decide_true,Int.toNat_natCast,wrap_next hi hl,h0,Bool.not_true]
 ·unfold awF; simp only[not_lt_len,cond_false]
 ·rw[any_rangeX l rdD (fun r=>decide (r.hi≤129368064))]
  unfold awB
  cases l.any fun r=>decide (r.hi≤129368064)<;>rfl
theorem mawS_ok:FspOk Tryz.prog 110 mawS:=tower_Y fsM2_ok spM0_ok ⟨Tryz.func110,fun _ _=>by kernel_rfl⟩ (by intro α args k; unfold mawS; split<;>rfl) fun args out hSm hEq=>by
 unfold mawS at hEq
 split at hEq
 ·rename_i l
  exact⟨l.length+1,12,((maw_text (l.length+1) 0 AOut l some).trans (maw_plain l (hSm _ (.head _)).len some)).trans hEq⟩
 ·cases hEq
noncomputable def fsM3:FuncId→Option Fsp:=fun g=>
 if g=112 then some mupS else
 if g=109 then some mneS else
 if g=110 then some mawS else
 fsM2 g
theorem fsM3_ok:FsOk fsM3:=
 fs_cons mupS_ok <|
 fs_cons mneS_ok <|
 fs_cons mawS_ok <|
 fsM2_ok
abbrev stG (l:List SnI) (x:Int):SnI:=l.getD x.toNat snD
def bdsE (l:List SnI) (r:List RdI):Int:=bif decide (r.length≤256) then bif snsB l then bndE l.length r else 2 else 3
def tmN (l:List SnI) (b:List RdI) (t:Int) (i:Nat):List RdI:=((List.range i).filter fun k=>(l.getD k snD).1==t).map fun k=>b.getD k rdD
def tmL (l:List SnI) (b:List RdI) (t:Int):List RdI:=tmN l b t l.length
theorem tmN_succ (l:List SnI) (b:List RdI) (t:Int) (i:Nat):tmN l b t (i+1)=bif (l.getD i snD).1==t then tmN l b t i++[b.getD i rdD] else tmN l b t i:=by
 unfold tmN
 rw[List.range_succ,List.filter_append,List.map_append]
 have e:List.filter (fun k=>(l.getD k snD).1==t) [i]=bif (l.getD i snD).1==t then [i] else []:=by
  rw[List.filter_cons]
  cases (l.getD i snD).1==t<;>rfl
 rw[e]
 cases (l.getD i snD).1==t
 ·exact List.append_nil _
 ·rfl
theorem tmN_len (l:List SnI) (b:List RdI) (t:Int) (i:Nat):(tmN l b t i).length≤i:=by
 unfold tmN
 rw[List.length_map]
 exact Nat.le_trans (List.length_filter_le _ _) (by rw[List.length_range]; exact Nat.le_refl i)
theorem snsB_at {l:List SnI} (h:snsB l=true):l.length≤16∧∀i,i<l.length→snV (l.getD i snD)=true:=by
 unfold snsB at h
 rw[Bool.and_eq_true,decide_eq_true_eq,Bool.not_eq_true',List.any_eq_false] at h
 refine⟨h.1,fun i hi=>?_⟩
 have:=h.2 i (List.mem_range.2 hi)
 unfold snBad at this
 cases hv:snV (l.getD i snD)
 ·rw[hv] at this; exact absurd rfl this
 ·rfl
theorem snV_team {s:SnI} (h:snV s=true):s.1=0∨s.1=1:=by
 unfold snV at h
 simp only[Bool.and_eq_true,decide_eq_true_eq] at h
 omega
def sidO (l:List SnI) (r:List RdI):AOut:=
 bif bdsE l r==0 then .ret (.tup [.ro (.recd (.cons (.int .i64) (.cons (.int .i64) (.cons (.int .i64) .nil)))) (bndM l.length r),.agg [.ro (.recd (.cons (.int .i64) (.cons (.int .i64) (.cons (.int .i64) .nil)))) (tmL l (bndM l.length r) 0),.ro (.recd (.cons (.int .i64) (.cons (.int .i64) (.cons (.int .i64) .nil)))) (tmL l (bndM l.length r) 1)],.int .i64 0])
 else .ret (.tup [.nils,.agg [.ro (.recd (.cons (.int .i64) (.cons (.int .i64) (.cons (.int .i64) .nil)))) [],.ro (.recd (.cons (.int .i64) (.cons (.int .i64) (.cons (.int .i64) .nil)))) []],.int .i64 (bdsE l r)])
def sidX (e:Int):AOut:=.ret (.tup [.nils,.agg [.ro (.recd (.cons (.int .i64) (.cons (.int .i64) (.cons (.int .i64) .nil)))) [],.ro (.recd (.cons (.int .i64) (.cons (.int .i64) (.cons (.int .i64) .nil)))) []],.int .i64 e])
abbrev TmS:=Int × List RdI × List RdI × Unit
def sdF {α:Type} (l:List SnI) (b:List RdI) (x:TmS):Option (LRes TmS α):=
 bif decide (x.1<(b.length:Int)) then
  if 0≤x.1∧x.1<(b.length:Int) then if 0≤x.1∧x.1<(l.length:Int) then if 0≤x.1∧x.1<(l.length:Int) then
   if 0≤(stG l x.1).1∧(stG l x.1).1<((2:Nat):Int) then
    bif (stG l x.1).1==((0:Nat):Int) then
     if (x.2.1.length+[((rdG b x.1).1,(rdG b x.1).2.1,(rdG b x.1).2.2.1,())].length)*24≤room then
      if 0≤(stG l x.1).1∧(stG l x.1).1<((2:Nat):Int) then
       bif (stG l x.1).1==((0:Nat):Int) then some (.cont (IntKind.i64.wrap (x.1+1),x.2.1++[((rdG b x.1).1,(rdG b x.1).2.1,(rdG b x.1).2.2.1,())],x.2.2.1,()))
       else bif (stG l x.1).1==((0+1:Nat):Int) then none else none
      else none
     else none
    else bif (stG l x.1).1==((0+1:Nat):Int) then
     if (x.2.2.1.length+[((rdG b x.1).1,(rdG b x.1).2.1,(rdG b x.1).2.2.1,())].length)*24≤room then
      if 0≤(stG l x.1).1∧(stG l x.1).1<((2:Nat):Int) then
       bif (stG l x.1).1==((0:Nat):Int) then none
       else bif (stG l x.1).1==((0+1:Nat):Int) then some (.cont (IntKind.i64.wrap (x.1+1),x.2.1,x.2.2.1++[((rdG b x.1).1,(rdG b x.1).2.1,(rdG b x.1).2.2.1,())],()))
       else none
      else none
     else none
    else none
   else none
  else none else none else none
 else some (.brk 0 (x.1,x.2.1,x.2.2.1,()))
set_option maxRecDepth 100000 in
theorem msd_text (N n0:Nat) (α:Type) (l:List SnI) (r:List RdI) (k:AOut→Option α):evFn real tab ((twY fsM3 spM0).env real tab N (n0+12)) N Tryz.f77 α [.ro (.recd (.cons (.int .i64) (.cons (.int .i64) (.cons (.recd (.cons (.int .i64) (.cons (.int .i64) .nil))) .nil)))) l,.ro (.recd (.cons (.int .i64) (.cons (.int .i64) (.cons (.int .i64) .nil)))) r] k =
 bif decide ((r.length:Int)>256) then k (sidX 3) else bif snsE l != 0 then k (sidX (snsE l)) else bif bndE l.length r != 0 then k (sidX (bndE l.length r)) else afterL (iterL N
 (sdF l (bndR l.length r)) (0,[],[],())) fun id y=>if id=0 then k (.ret (.tup [.ro (.recd (.cons (.int .i64) (.cons (.int .i64) (.cons (.int .i64) .nil)))) (bndR l.length r),
 .agg [.ro (.recd (.cons (.int .i64) (.cons (.int .i64) (.cons (.int .i64) .nil)))) y.2.1,.ro (.recd (.cons (.int .i64) (.cons (.int .i64) (.cons (.int .i64) .nil)))) y.2.2.1],.int
 .i64 0])) else none:=by kernel_rfl
theorem sdF_eq {α:Type} (l:List SnI) (b:List RdI) (hb:b.length=l.length) (hl:l.length≤16) (hv:∀i,i<l.length→snV (l.getD i snD)=true) {i:Nat} (hi:i<l.length):sdF (α:=α) l b ((i:Int),tmN l b 0 i,tmN l b 1 i,())=some (.cont (((i+1:Nat):Int),tmN l b 0 (i+1),tmN l b 1 (i+1),())):=by
 have hmx:l.length≤maxLen:=by have:maxLen=9223372036854775807:=rfl; omega
 have h0:((tmN l b 0 i).length+1)*24≤room:=by have:=tmN_len l b 0 i; simp only[room]; omega
 have h1:((tmN l b 1 i).length+1)*24≤room:=by have:=tmN_len l b 1 i; simp only[room]; omega
 unfold sdF stG rdG
 simp only[hb,lt_len hi,cond_true,in_len hi,if_pos,and_self,decide_true,Int.toNat_natCast,wrap_next hi hmx,List.length_cons,List.length_nil,Nat.zero_add,h0,h1,tmN_succ]
 rcases snV_team (hv i hi) with e|e<;>rw[e]<;>rfl
theorem msd_plain {α:Type} (l:List SnI) (r:List RdI) (k:AOut→Option α):(bif decide ((r.length:Int)>256) then k (sidX 3) else
 bif snsE l != 0 then k (sidX (snsE l)) else
 bif bndE l.length r != 0 then k (sidX (bndE l.length r)) else
 afterL (iterL 20 (sdF l (bndR l.length r)) (0,[],[],())) fun id y=>if id=0 then k (.ret (.tup [.ro (.recd (.cons (.int .i64) (.cons (.int .i64) (.cons (.int .i64) .nil)))) (bndR l.length r),.agg [.ro (.recd (.cons (.int .i64) (.cons (.int .i64) (.cons (.int .i64) .nil)))) y.2.1,.ro (.recd (.cons (.int .i64) (.cons (.int .i64) (.cons (.int .i64) .nil)))) y.2.2.1],.int .i64 0])) else none)=k (sidO l r):=by
 unfold sidO
 by_cases h:r.length≤256
 ·rw[decide_eq_false (show ¬(r.length:Int)>256 by omega),cond_false]
  have e1:bdsE l r=bif snsB l then bndE l.length r else 2:=by unfold bdsE; rw[decide_eq_true h]; rfl
  unfold snsE
  cases hs:snsB l
  ·rw[hs] at e1
   rw[e1]; rfl
  ·rw[hs] at e1
   rw[e1,cond_true,cond_true]
   show (bif bndE l.length r != 0 then k (sidX (bndE l.length r)) else _)=_
   cases hE:bndE l.length r==0
   ·have:(bndE l.length r != 0)=true:=by unfold bne; rw[hE]; rfl
    rw[this]; rfl
   ·have:(bndE l.length r != 0)=false:=by unfold bne; rw[hE]; rfl
    rw[this,cond_false,cond_true]
    have hR:bndR l.length r=bndM l.length r:=by unfold bndR; rw[hE]; rfl
    rw[hR]
    obtain⟨hl,hv⟩:=snsB_at hs
    have hb:=bndM_len l.length r
    refine (count_loop (f:=sdF l (bndM l.length r)) (fun i=>((i:Int),tmN l (bndM l.length r) 0 i,tmN l (bndM l.length r) 1 i,())) l.length (fun i hi=>sdF_eq l _ hb hl hv hi) (y:=((l.length:Int),tmL l (bndM l.length r) 0,tmL l (bndM l.length r) 1,())) (b:=0) ?_ (by omega)).trans rfl
    unfold sdF; simp only[hb,not_lt_len,cond_false]; rfl
 ·have e1:bdsE l r=3:=by unfold bdsE; rw[decide_eq_false h]; rfl
  rw[decide_eq_true (show (r.length:Int)>256 by omega),e1]; rfl
noncomputable def msdS:Fsp:=fun _ args k=>match args with
 | [.ro (.recd (.cons (.int .i64) (.cons (.int .i64) (.cons (.recd (.cons (.int .i64) (.cons (.int .i64) .nil))) .nil)))) l,.ro (.recd (.cons (.int .i64) (.cons (.int .i64) (.cons (.int .i64) .nil)))) r]=>bif bdsE l r==0 then k (.ret (.tup [.ro (.recd (.cons (.int .i64) (.cons (.int .i64) (.cons (.int .i64) .nil)))) (bndM l.length r),.agg [.ro (.recd (.cons (.int .i64) (.cons (.int .i64) (.cons (.int .i64) .nil)))) (tmL l (bndM l.length r) 0),.ro (.recd (.cons (.int .i64) (.cons (.int .i64) (.cons (.int .i64) .nil)))) (tmL l (bndM l.length r) 1)],.int .i64 0])) else k (sidX (bdsE l r))
 |_=>none
theorem msdS_ok:FspOk Tryz.prog 77 msdS:=tower_Y fsM3_ok spM0_ok ⟨Tryz.func77,fun _ _=>by kernel_rfl⟩ (by intro α args k; unfold msdS; split<;>simp only[cond_bind,Option.bind_some,Option.bind_none]) fun args out hSm hEq=>by
 unfold msdS at hEq
 split at hEq
 ·rename_i l r
  refine⟨20,12,((msd_text 20 0 AOut l r some).trans (msd_plain l r some)).trans (Eq.trans ?_ hEq)⟩
  unfold sidO sidX
  cases bdsE l r==0<;>rfl
 ·cases hEq
noncomputable def fsM4:FuncId→Option Fsp:=fun g=>
 if g=77 then some msdS else
 fsM3 g
theorem fsM4_ok:FsOk fsM4:=
 fs_cons msdS_ok <|
 fsM3_ok
abbrev ScI:=Int × Int × Unit
abbrev ScM:=List (ScI × Bool)
def scPut (t n:Int) (m:ScM):ScM:=mpPut nmSh .bool (t,n,()) true m
def scKeys (m:ScM):List ScI:=m.map (·.1)
theorem scKeys_mem (t n:Int) (q:ScI) (m:ScM):q∈scKeys (scPut t n m)↔q=(t,n,())∨q∈scKeys m:=mpKeys_mem (k:=nmSh) (v:=.bool) nm_eqb (t,n,()) q true m
theorem scKeys_nodup (t n:Int) {m:ScM} (h:(scKeys m).Nodup):(scKeys (scPut t n m)).Nodup:=mpKeys_nodup (k:=nmSh) (v:=.bool) nm_eqb (t,n,()) true h
def rndN (s:List RdI) (t d:Int) (m:ScM):Nat→ScM
 |0=>m
 |i+1=>scPut t ((max 1 (mustN s d)+i:Nat):Int) (rndN s t d m i)
def rndC (s:List RdI) (d:Int):Nat:=canN s d+1-max 1 (mustN s d)
def rndM (s:List RdI) (t d:Int) (m:ScM):ScM:=rndN s t d m (rndC s d)
def limR (o:List RdI) (r:RdI):List Int:=[r.lo,r.hi].filter fun d=>decide (minLo o≤d)&&decide (d≤minHi o-1)
def lims (s o:List RdI):List Int:=(bif awB o then [129368064] else [])++bif decide (minLo o≤minHi o) then (minLo o-1)::s.flatMap (limR o) else []
def tmM (s o:List RdI) (t:Int) (m:ScM):ScM:=(lims s o).foldl (fun m d=>rndM s t d m) m
def tieB (a b:List RdI):Bool:=(awB a&&awB b) || decide (max (minLo a) (minLo b)≤min (minHi a) (minHi b))
def tieM (a b:List RdI):ScM:=bif tieB a b then [((-1,0,()),true)] else []
def scM (a b:List RdI):ScM:=tmM b a 1 (tmM a b 0 (tieM a b))
def msB (s o:List RdI) (n:Nat):Bool:=(lims s o).any fun d=>decide (max 1 (mustN s d)≤n)&&decide (n≤canN s d)
def scT (s o:List RdI) (t:Int):List ScI:=((List.range 16).filter fun i=>msB s o (i+1)).map fun i=>(t,((i+1:Nat):Int),())
def scL (a b:List RdI):List ScI:=(bif tieB a b then [(-1,0,())] else [])++(scT a b 0++scT b a 1)
theorem rndN_mem (s:List RdI) (t d:Int) (m:ScM) (q:ScI):∀i,q∈scKeys (rndN s t d m i)↔(∃j,j<i∧q=(t,((max 1 (mustN s d)+j:Nat):Int),()))∨q∈scKeys m
 |0=>by simp[rndN]
 |i+1=>by
  rw[rndN,scKeys_mem,rndN_mem s t d m q i]
  constructor
  ·rintro (h|⟨j,hj,h⟩|h)
   ·exact .inl ⟨i,Nat.lt_succ_self i,h⟩
   ·exact .inl ⟨j,by omega,h⟩
   ·exact .inr h
  ·rintro (⟨j,hj,h⟩|h)
   ·by_cases e:j=i
    ·subst e; exact .inl h
    ·exact .inr (.inl ⟨j,by omega,h⟩)
   ·exact .inr (.inr h)
theorem rndN_nodup (s:List RdI) (t d:Int) {m:ScM} (h:(scKeys m).Nodup):∀i,(scKeys (rndN s t d m i)).Nodup
 |0=>h
 |i+1=>scKeys_nodup _ _ (rndN_nodup s t d h i)
theorem rndM_mem (s:List RdI) (t d:Int) (m:ScM) (q:ScI):q∈scKeys (rndM s t d m)↔(∃n:Nat,max 1 (mustN s d)≤n∧n≤canN s d∧q=(t,(n:Int),()))∨q∈scKeys m:=by
 unfold rndM rndC
 rw[rndN_mem]
 refine or_congr ⟨fun ⟨j,hj,e⟩=>⟨max 1 (mustN s d)+j,by omega,by omega,e⟩,fun ⟨n,h1,h2,e⟩=>⟨n-max 1 (mustN s d),by omega,?_⟩⟩ Iff.rfl
 rw[Nat.add_sub_cancel' h1]; exact e
theorem tmF_mem (s:List RdI) (t:Int) (q:ScI):∀(L:List Int) (m:ScM),q∈scKeys (L.foldl (fun m d=>rndM s t d m) m)↔(∃d∈L,∃n:Nat,max 1 (mustN s d)≤n∧n≤canN s d∧q=(t,(n:Int),()))∨q∈scKeys m
 | [],m=>by simp
 |d::L,m=>by
  rw[List.foldl_cons,tmF_mem s t q L,rndM_mem]
  constructor
  ·rintro (⟨d',h,r⟩|r|r)
   ·exact .inl ⟨d',List.mem_cons_of_mem _ h,r⟩
   ·exact .inl ⟨d,List.mem_cons_self,r⟩
   ·exact .inr r
  ·rintro (⟨d',h,r⟩|r)
   ·rcases List.mem_cons.1 h with rfl|h
    ·exact .inr (.inl r)
    ·exact .inl ⟨d',h,r⟩
   ·exact .inr (.inr r)
theorem tmF_nodup (s:List RdI) (t:Int):∀(L:List Int) {m:ScM},(scKeys m).Nodup→(scKeys (L.foldl (fun m d=>rndM s t d m) m)).Nodup
 | [],_,h=>h
 |_::L,_,h=>tmF_nodup s t L (rndN_nodup s t _ h _)
theorem scT_mem (s o:List RdI) (t:Int) (hs:s.length≤16) (q:ScI):(∃d∈lims s o,∃n:Nat,max 1 (mustN s d)≤n∧n≤canN s d∧q=(t,(n:Int),()))↔q∈scT s o t:=by
 unfold scT
 rw[List.mem_map]
 constructor
 ·rintro⟨d,hd,n,h1,h2,rfl⟩
  have:=canN_le s d
  refine⟨n-1,List.mem_filter.2 ⟨List.mem_range.2 (by omega),?_⟩,?_⟩
  ·rw[Nat.sub_add_cancel (by omega)]
   exact List.any_eq_true.2 ⟨d,hd,by simp[h1,h2]⟩
  ·rw[Nat.sub_add_cancel (by omega)]
 ·rintro⟨i,hi,rfl⟩
  obtain⟨d,hd,h⟩:=List.any_eq_true.1 (List.mem_filter.1 hi).2
  rw[Bool.and_eq_true,decide_eq_true_eq,decide_eq_true_eq] at h
  exact⟨d,hd,i+1,h.1,h.2,rfl⟩
theorem scM_mem (a b:List RdI) (ha:a.length≤16) (hb:b.length≤16) (q:ScI):q∈scKeys (scM a b)↔q∈scL a b:=by
 unfold scM tmM
 rw[tmF_mem,tmF_mem,scT_mem b a 1 hb,scT_mem a b 0 ha]
 unfold scL tieM
 rw[List.mem_append,List.mem_append]
 cases tieB a b
 ·simp only[cond_false,scKeys,List.map_nil,List.not_mem_nil,or_false,false_or]; exact Or.comm
 ·simp only[cond_true,scKeys,List.map_cons,List.map_nil,List.mem_singleton]
  constructor
  ·rintro (h|h|h)
   ·exact .inr (.inr h)
   ·exact .inr (.inl h)
   ·exact .inl h
  ·rintro (h|h|h)
   ·exact .inr (.inr h)
   ·exact .inr (.inl h)
   ·exact .inl h
theorem scM_nodup (a b:List RdI):(scKeys (scM a b)).Nodup:=by
 refine tmF_nodup b 1 _ (tmF_nodup a 0 _ ?_)
 unfold tieM
 cases tieB a b
 ·exact List.nodup_nil
 ·exact List.nodup_cons.2 ⟨List.not_mem_nil,List.nodup_nil⟩
def scLt (p q:ScI):Bool:=decide (p.1<q.1) || (p.1==q.1&&decide (p.2.1<q.2.1))
theorem scLt_iff (p q:ScI):scLt p q=true↔p.1<q.1∨(p.1=q.1∧p.2.1<q.2.1):=by
 unfold scLt
 rw[Bool.or_eq_true,Bool.and_eq_true,decide_eq_true_eq,decide_eq_true_eq,@beq_iff_eq Int]
theorem scT_sorted (s o:List RdI) (t:Int):(scT s o t).Pairwise fun p q=>scLt p q=true:=by
 unfold scT
 refine List.Pairwise.map _ (R:=fun i k:Nat=>i<k) (fun i k h=>?_) (List.Pairwise.filter _ List.pairwise_lt_range)
 rw[scLt_iff]
 exact .inr ⟨rfl,by show ((i+1:Nat):Int)<((k+1:Nat):Int); omega⟩
theorem scT_fst {s o:List RdI} {t:Int} {q:ScI} (h:q∈scT s o t):q.1=t∧1≤q.2.1∧q.2.1≤16:=by
 obtain⟨i,hi,rfl⟩:=List.mem_map.1 h
 have:=List.mem_range.1 (List.mem_filter.1 hi).1
 refine⟨rfl,?_,?_⟩<;>(show _≤_; simp only[]; omega)
theorem scL_sorted (a b:List RdI):(scL a b).Pairwise fun p q=>scLt p q=true:=by
 unfold scL
 have h2:(scT a b 0++scT b a 1).Pairwise fun p q=>scLt p q=true:=
  List.pairwise_append.2 ⟨scT_sorted a b 0,scT_sorted b a 1,fun p hp q hq=>(scLt_iff p q).2 (.inl (by rw[(scT_fst hp).1,(scT_fst hq).1]; decide))⟩
 refine List.pairwise_append.2 ⟨?_,h2,fun p hp q hq=>?_⟩
 ·cases tieB a b
  ·exact .nil
  ·exact List.pairwise_singleton _ _
 ·cases hB:tieB a b
  ·rw[hB] at hp; exact absurd hp List.not_mem_nil
  ·rw[hB] at hp
   rw[List.mem_singleton.1 hp,scLt_iff]
   rcases List.mem_append.1 hq with h|h
   ·exact .inl (by rw[(scT_fst h).1]; decide)
   ·exact .inl (by rw[(scT_fst h).1]; decide)
theorem scL_in {a b:List RdI} {q:ScI} (h:q∈scL a b):-1≤q.1∧q.1≤1∧0≤q.2.1∧q.2.1≤16:=by
 unfold scL at h
 rcases List.mem_append.1 h with h|h
 ·cases hB:tieB a b
  ·rw[hB] at h; exact absurd h List.not_mem_nil
  ·rw[hB] at h; rw[List.mem_singleton.1 h]; decide
 ·rcases List.mem_append.1 h with h|h<;>(have:=scT_fst h; omega)
theorem scL_len (a b:List RdI):(scL a b).length≤33:=by
 have hT:∀s o t,(scT s o t).length≤16:=fun s o t=>by
  unfold scT
  rw[List.length_map]
  exact Nat.le_trans (List.length_filter_le _ (List.range 16)) (by rw[List.length_range]; exact Nat.le_refl _)
 have h1:=hT a b 0
 have h2:=hT b a 1
 unfold scL
 rw[List.length_append,List.length_append]
 have:(bif tieB a b then [((-1:Int),(0:Int),())] else []).length≤1:=by cases tieB a b<;>decide
 omega
theorem sc_unique {l l':List ScI} (h1:l.Pairwise fun p q=>scLt p q=true) (h2:l'.Pairwise fun p q=>scLt p q=true) (hp:l.Perm l'):l=l':=by
 refine hp.eq_of_pairwise (fun p q _ _ h3 h4=>?_) h1 h2
 rw[scLt_iff] at h3 h4
 obtain⟨p1,p2,_⟩:=p
 obtain⟨q1,q2,_⟩:=q
 simp only at h3 h4
 have e1:p1=q1:=by omega
 have e2:p2=q2:=by omega
 rw[e1,e2]
theorem scM_perm (a b:List RdI) (ha:a.length≤16) (hb:b.length≤16):(scKeys (scM a b)).Perm (scL a b):=by
 refine (List.perm_ext_iff_of_nodup (scM_nodup a b) ?_).2 fun q=>scM_mem a b ha hb q
 refine (scL_sorted a b).imp fun {p q} h e=>?_
 subst e
 rw[scLt_iff] at h
 omega
abbrev RdSh:Sh:=.recd (.cons (.int .i64) (.cons (.int .i64) (.cons (.int .i64) .nil)))
abbrev ScS:=ScM × Int × Unit
def rnF {α:Type} (s:List RdI) (t d:Int) (x:ScS):Option (LRes ScS α):=
 bif decide (x.2.1≤(canN s d:Int)) then some (.cont (mpPut nmSh .bool (t,x.2.1,()) true x.1,IntKind.i64.wrap (x.2.1+1),())) else some (.brk 4 (x.1,x.2.1,()))
def rnK {α:Type} (N:Nat) (s:List RdI) (t d:Int) (m:ScM) (K:ScM→Option α):Option α:=
 afterL (iterL N (rnF s t d) (m,if 1<(mustN s d:Int) then (mustN s d:Int) else 1,())) fun id y=>if id=4 then K y.1 else none
def dG (s:List RdI) (i j:Int):Int:=[(rdG s i).2.1,(rdG s i).2.2.1].getD j.toNat 0
def inF {α:Type} (N:Nat) (s o:List RdI) (t i:Int) (x:ScS):Option (LRes ScS α):=
 bif decide (x.2.1<2) then
  if 0≤x.2.1∧x.2.1<((2:Nat):Int) then
   bif decide (minLo o≤dG s i x.2.1) then
    bif decide (dG s i x.2.1≤IntKind.i64.wrap (minHi o-1)) then rnK N s t (dG s i x.2.1) x.1 fun m=>some (.cont (m,IntKind.i64.wrap (x.2.1+1),()))
    else some (.cont (x.1,IntKind.i64.wrap (x.2.1+1),()))
   else some (.cont (x.1,IntKind.i64.wrap (x.2.1+1),()))
  else none
 else some (.brk 2 (x.1,x.2.1,()))
def ouF {α:Type} (N:Nat) (s o:List RdI) (t:Int) (x:ScS):Option (LRes ScS α):=
 bif decide (x.2.1<(s.length:Int)) then
  if 0≤x.2.1∧x.2.1<(s.length:Int) then afterL (iterL N (inF N s o t x.2.1) (x.1,0,())) fun id y=>if id=2 then some (.cont (y.1,IntKind.i64.wrap (x.2.1+1),())) else none
  else none
 else some (.brk 0 (x.1,x.2.1,()))
def reK {α:Type} (N:Nat) (s o:List RdI) (t:Int) (m:ScM) (K:ScM→Option α):Option α:=
 bif decide (minLo o>minHi o) then K m
 else rnK N s t (IntKind.i64.wrap (minLo o-1)) m fun m=>afterL (iterL N (ouF N s o t) (m,0,())) fun id y=>if id=0 then K y.1 else none
def teK {α:Type} (N:Nat) (s o:List RdI) (t:Int) (m:ScM) (K:ScM→Option α):Option α:=
 bif awB o then rnK N s t 129368064 m fun m=>reK N s o t m K else reK N s o t m K
def teF {α:Type} (N:Nat) (a b:List RdI) (x:ScS):Option (LRes ScS α):=
 bif decide (x.2.1<2) then
  if 0≤x.2.1∧x.2.1<((2:Nat):Int) then
   if 0≤IntKind.i64.wrap (1-x.2.1)∧IntKind.i64.wrap (1-x.2.1)<((2:Nat):Int) then
    bif IntKind.i64.wrap (1-x.2.1)==((0:Nat):Int) then teK N ([a,b].getD x.2.1.toNat []) a x.2.1 x.1 fun m=>some (.cont (m,IntKind.i64.wrap (x.2.1+1),()))
    else bif IntKind.i64.wrap (1-x.2.1)==((0+1:Nat):Int) then teK N ([a,b].getD x.2.1.toNat []) b x.2.1 x.1 fun m=>some (.cont (m,IntKind.i64.wrap (x.2.1+1),()))
    else none
   else none
  else none
 else some (.brk 0 (x.1,x.2.1,()))
def alK {α:Type} (N:Nat) (a b:List RdI) (m:ScM) (K:ScM→Option α):Option α:=
 afterL (iterL N (teF N a b) (m,0,())) fun id y=>if id=0 then K y.1 else none
def scX {α:Type} (N:Nat) (a b:List RdI) (K:ScM→Option α):Option α:=
 bif awB a then bif awB b then alK N a b [((-1,0,()),true)] K
  else bif decide ((if minLo a<minLo b then minLo b else minLo a)≤if minHi b<minHi a then minHi b else minHi a) then alK N a b [((-1,0,()),true)] K else alK N a b [] K
 else bif decide ((if minLo a<minLo b then minLo b else minLo a)≤if minHi b<minHi a then minHi b else minHi a) then alK N a b [((-1,0,()),true)] K else alK N a b [] K
def rdGood (l:List RdI):Prop:=l.length≤16∧∀r∈l,0≤r.lo∧r.lo≤r.hi∧r.hi≤70368744177664
theorem minHi_in {l:List RdI} (h:rdGood l):0≤minHi l∧minHi l≤129368064:=by
 unfold minHi
 have:∀(l:List RdI) (a:Int),(∀r∈l,0≤r.hi)→0≤a→a≤129368064→0≤l.foldl (fun a r=>min a r.hi) a∧l.foldl (fun a r=>min a r.hi) a≤129368064:=by
  intro l
  induction l with
  |nil=>intro a _ h1 h2; exact⟨h1,h2⟩
  |cons r l ih=>
   intro a hr h1 h2
   have:=hr r List.mem_cons_self
   exact ih _ (fun q hq=>hr q (List.mem_cons_of_mem _ hq)) (by show 0≤min a _; omega) (by show min a _≤_; omega)
 exact this l _ (fun r hr=>by have:=h.2 r hr; omega) (by omega) (by omega)
theorem minLo_in {l:List RdI} (h:rdGood l):0≤minLo l∧minLo l≤129368065:=by
 unfold minLo
 have:∀(l:List RdI) (a:Int),(∀r∈l,0≤r.lo)→0≤a→a≤129368065→0≤l.foldl (fun a r=>min a r.lo) a∧l.foldl (fun a r=>min a r.lo) a≤129368065:=by
  intro l
  induction l with
  |nil=>intro a _ h1 h2; exact⟨h1,h2⟩
  |cons r l ih=>
   intro a hr h1 h2
   have:=hr r List.mem_cons_self
   exact ih _ (fun q hq=>hr q (List.mem_cons_of_mem _ hq)) (by show 0≤min a _; omega) (by show min a _≤_; omega)
 exact this l _ (fun r hr=>by have:=h.2 r hr; omega) (by omega) (by omega)
theorem w64_small {x:Int} (h0:-1≤x) (h1:x≤1000000000):IntKind.i64.wrap x=x:=by rw[IntKind.wrap_i64]; omega
theorem rnK_eq {α:Type} {N:Nat} (hN:20≤N) {s:List RdI} (hs:s.length≤16) (t d:Int) (m:ScM) (K:ScM→Option α):rnK N s t d m K=K (rndM s t d m):=by
 unfold rnK
 have hm:=mustN_le s d
 have hc:=canN_le s d
 have e1:max 1 (mustN s d)=if 1<mustN s d then mustN s d else 1:=by rw[Nat.max_def]; split<;>split<;>omega
 have e0:(if 1<(mustN s d:Int) then (mustN s d:Int) else 1)=((max 1 (mustN s d)+0:Nat):Int):=by rw[e1]; split<;>split<;>omega
 rw[e0]
 refine (count_loop (f:=rnF s t d) (fun i=>(rndN s t d m i,((max 1 (mustN s d)+i:Nat):Int),())) (rndC s d) (fun i hi=>?_) (y:=(rndM s t d m,((max 1 (mustN s d)+rndC s d:Nat):Int),())) (b:=4) ?_ (by unfold rndC; omega)).trans rfl
 ·unfold rndC at hi
  have h1:max 1 (mustN s d)+i≤40:=by omega
  have h2:max 1 (mustN s d)+i≤canN s d:=by omega
  show rnF s t d (rndN s t d m i,((max 1 (mustN s d)+i:Nat):Int),())=some (.cont (scPut t ((max 1 (mustN s d)+i:Nat):Int) (rndN s t d m i),((max 1 (mustN s d)+i+1:Nat):Int),()))
  generalize max 1 (mustN s d)+i=q at h1 h2
  unfold rnF
  have e3:IntKind.i64.wrap ((q:Int)+1)=((q+1:Nat):Int):=by rw[w64_small (by omega) (by omega)]; omega
  show (bif decide ((q:Int)≤(canN s d:Int)) then some (LRes.cont (scPut t (q:Int) (rndN s t d m i),IntKind.i64.wrap ((q:Int)+1),())) else _)=_
  rw[decide_eq_true (show (q:Int)≤(canN s d:Int) by omega),cond_true,e3]
 ·unfold rnF
  rw[decide_eq_false (show ¬((max 1 (mustN s d)+rndC s d:Nat):Int)≤(canN s d:Int) by unfold rndC; omega),cond_false]
  rfl
def limB (o:List RdI) (d:Int):Bool:=decide (minLo o≤d)&&decide (d≤minHi o-1)
def inM (s o:List RdI) (t:Int) (m:ScM) (r:RdI) (j:Nat):ScM:=(([r.lo,r.hi].take j).filter (limB o)).foldl (fun m d=>rndM s t d m) m
theorem inM_succ (s o:List RdI) (t:Int) (m:ScM) (r:RdI) {j:Nat} (hj:j<2):inM s o t m r (j+1)=bif limB o ([r.lo,r.hi].getD j 0) then rndM s t ([r.lo,r.hi].getD j 0) (inM s o t m r j) else inM s o t m r j:=by
 unfold inM
 have:[r.lo,r.hi].take (j+1)=[r.lo,r.hi].take j++[[r.lo,r.hi].getD j 0]:=by
  match j,hj with
  |0,_=>rfl
  |1,_=>rfl
 rw[this,List.filter_append,List.foldl_append]
 generalize [r.lo,r.hi].getD j 0=q
 cases h:limB o q
 ·rw[List.filter_cons_of_neg (by rw[h]; decide)]; rfl
 ·rw[List.filter_cons_of_pos h]; rfl
theorem inF_eq {α:Type} {N:Nat} (hN:20≤N) {s o:List RdI} (hs:s.length≤16) (ho:rdGood o) (t:Int) (m:ScM) (i:Int) {j:Nat} (hj:j<2):inF (α:=α) N s o t i (inM s o t m (rdG s i) j,(j:Int),())=some (.cont (inM s o t m (rdG s i) (j+1),((j+1:Nat):Int),())):=by
 unfold inF
 have h1:=minHi_in ho
 simp only[decide_eq_true (show (j:Int)<2 by omega),cond_true,if_pos (show 0≤(j:Int)∧(j:Int)<((2:Nat):Int) by omega),w64_small (show -1≤minHi o-1 by omega) (by omega),w64_small (show -1≤(j:Int)+1 by omega) (by omega)]
 rw[inM_succ s o t m _ hj]
 have e:dG s i (j:Int)=[(rdG s i).lo,(rdG s i).hi].getD j 0:=by unfold dG; rw[Int.toNat_natCast]
 rw[e,rnK_eq hN hs]
 unfold limB
 cases decide (minLo o≤[(rdG s i).lo,(rdG s i).hi].getD j 0)<;>cases decide ([(rdG s i).lo,(rdG s i).hi].getD j 0≤minHi o-1)<;>rfl
theorem in_run {α:Type} {N:Nat} (hN:20≤N) {s o:List RdI} (hs:s.length≤16) (ho:rdGood o) (t:Int) (m:ScM) (i:Int) (K:Nat→ScS→Option α):afterL (iterL N (inF N s o t i) (m,0,())) K=K 2 ((limR o (rdG s i)).foldl (fun m d=>rndM s t d m) m,2,()):=by
 refine (count_loop (f:=inF N s o t i) (fun j=>(inM s o t m (rdG s i) j,(j:Int),())) 2 (fun j hj=>inF_eq hN hs ho t m i hj) (y:=(inM s o t m (rdG s i) 2,2,())) (b:=2) ?_ (by omega)).trans rfl
 unfold inF
 rw[decide_eq_false (show ¬((2:Nat):Int)<2 by omega),cond_false]
 rfl
def ouM (s o:List RdI) (t:Int) (m:ScM) (i:Nat):ScM:=((s.take i).flatMap (limR o)).foldl (fun m d=>rndM s t d m) m
theorem ouF_eq {α:Type} {N:Nat} (hN:20≤N) {s o:List RdI} (hs:s.length≤16) (ho:rdGood o) (t:Int) (m:ScM) {i:Nat} (hi:i<s.length):ouF (α:=α) N s o t (ouM s o t m i,(i:Int),())=some (.cont (ouM s o t m (i+1),((i+1:Nat):Int),())):=by
 unfold ouF
 simp only[lt_len hi,cond_true,in_len hi,if_pos,and_self]
 rw[in_run hN hs ho]
 simp only[if_true]
 rw[w64_small (show -1≤(i:Int)+1 by omega) (by omega)]
 have e:ouM s o t m (i+1)=(limR o (rdG s (i:Int))).foldl (fun m d=>rndM s t d m) (ouM s o t m i):=by
  unfold ouM
  rw[take_nextX s rdD hi,List.flatMap_append,List.foldl_append]
  unfold rdG
  rw[Int.toNat_natCast]
  simp[List.flatMap_cons]
 rw[e]
 rfl
theorem ou_run {α:Type} {N:Nat} (hN:20≤N) {s o:List RdI} (hs:s.length≤16) (ho:rdGood o) (t:Int) (m:ScM) (K:Nat→ScS→Option α):afterL (iterL N (ouF N s o t) (m,0,())) K=K 0 ((s.flatMap (limR o)).foldl (fun m d=>rndM s t d m) m,(s.length:Int),()):=by
 refine (count_loop (f:=ouF N s o t) (fun i=>(ouM s o t m i,(i:Int),())) s.length (fun i hi=>ouF_eq hN hs ho t m hi) (y:=((s.flatMap (limR o)).foldl (fun m d=>rndM s t d m) m,(s.length:Int),())) (b:=0) ?_ (by omega)).trans rfl
 unfold ouF ouM
 simp only[not_lt_len,cond_false,List.take_length]
theorem teK_eq {α:Type} {N:Nat} (hN:20≤N) {s o:List RdI} (hs:s.length≤16) (ho:rdGood o) (t:Int) (m:ScM) (K:ScM→Option α):teK N s o t m K=K (tmM s o t m):=by
 have h1:=minLo_in ho
 have hre:∀m,reK N s o t m K=K ((bif decide (minLo o≤minHi o) then (minLo o-1)::s.flatMap (limR o) else []).foldl (fun m d=>rndM s t d m) m):=fun m=>by
  unfold reK
  by_cases h:minLo o≤minHi o
  ·rw[decide_eq_false (show ¬minLo o>minHi o by omega),decide_eq_true h,cond_false,cond_true,rnK_eq hN hs,w64_small (by omega) (by omega),ou_run hN hs ho]
   rfl
  ·rw[decide_eq_true (show minLo o>minHi o by omega),decide_eq_false h]
   rfl
 unfold teK tmM lims
 cases awB o
 ·rw[cond_false,cond_false,List.nil_append]; exact hre m
 ·rw[cond_true,cond_true,rnK_eq hN hs,hre]; rfl
theorem alK_eq {α:Type} {N:Nat} (hN:20≤N) {a b:List RdI} (ha:rdGood a) (hb:rdGood b) (m:ScM) (K:ScM→Option α):alK N a b m K=K (tmM b a 1 (tmM a b 0 m)):=by
 unfold alK
 refine (count_loop (f:=teF N a b) (fun j=>(match j with|0=>m|1=>tmM a b 0 m|_=>tmM b a 1 (tmM a b 0 m),(j:Int),())) 2 (fun j hj=>?_) (y:=(tmM b a 1 (tmM a b 0 m),2,())) (b:=0) ?_ (by omega)).trans rfl
 ·match j,hj with
  |0,_=>
   show (if 0≤IntKind.i64.wrap (1-0)∧IntKind.i64.wrap (1-0)<((2:Nat):Int) then _ else none)=_
   rw[w64_small (show (-1:Int)≤1-0 by omega) (by omega),if_pos (by decide)]
   show teK N a b 0 m _=_
   rw[teK_eq hN ha.1 hb]
   exact congrArg (fun z=>some (LRes.cont (tmM a b 0 m,z,()))) (w64_small (x:=0+1) (by decide) (by decide))
  |1,_=>
   show (if 0≤IntKind.i64.wrap (1-1)∧IntKind.i64.wrap (1-1)<((2:Nat):Int) then _ else none)=_
   rw[w64_small (show (-1:Int)≤1-1 by omega) (by omega),if_pos (by decide)]
   show teK N b a 1 (tmM a b 0 m) _=_
   rw[teK_eq hN hb.1 ha]
   exact congrArg (fun z=>some (LRes.cont (tmM b a 1 (tmM a b 0 m),z,()))) (w64_small (x:=1+1) (by decide) (by decide))
 ·rfl
theorem scX_eq {α:Type} {N:Nat} (hN:20≤N) {a b:List RdI} (ha:rdGood a) (hb:rdGood b) (K:ScM→Option α):scX N a b K=K (scM a b):=by
 unfold scX scM tieM tieB
 simp only[alK_eq hN ha hb]
 have e:((if minLo a<minLo b then minLo b else minLo a)≤if minHi b<minHi a then minHi b else minHi a)↔max (minLo a) (minLo b)≤min (minHi a) (minHi b):=by
  have e1:(if minLo a<minLo b then minLo b else minLo a)=max (minLo a) (minLo b):=by split<;>omega
  have e2:(if minHi b<minHi a then minHi b else minHi a)=min (minHi a) (minHi b):=by split<;>omega
  rw[e1,e2]
 rw[decide_eq_decide.2 e]
 cases awB a<;>cases awB b<;>cases decide (max (minLo a) (minLo b)≤min (minHi a) (minHi b))<;>rfl
theorem bLo_in {l:List RdI} {n:Int} (hr:rdsB n l=true) (k:Nat):0≤bLo l k:=by
 have hv:∀r∈l,0≤r.lo:=fun r hm=>by
  unfold rdsB at hr
  rw[Bool.not_eq_true',List.any_eq_false] at hr
  have:=hr r hm
  cases h:rgtR n r
  ·rw[h] at this; exact absurd rfl this
  ·unfold rgtR at h
   simp only[Bool.and_eq_true,decide_eq_true_eq] at h
   exact h.2.1
 unfold bLo
 have:∀(l:List RdI) (a:Int),(∀r∈l,0≤r.lo)→0≤a→0≤l.foldl (fun a r=>if r.1=(k:Int) then max a r.lo else a) a:=by
  intro l
  induction l with
  |nil=>intro a _ h; exact h
  |cons r l ih=>
   intro a hr h
   have:=hr r List.mem_cons_self
   exact ih _ (fun q hq=>hr q (List.mem_cons_of_mem _ hq)) (by show 0≤(if r.1=(k:Int) then max a r.lo else a); split<;>omega)
 exact this l 0 hv (by omega)
theorem bHi_in (l:List RdI) (k:Nat):bHi l k≤70368744177664:=by
 unfold bHi
 have:∀(l:List RdI) (a:Int),a≤70368744177664→l.foldl (fun a r=>if r.1=(k:Int) then min a r.hi else a) a≤70368744177664:=by
  intro l
  induction l with
  |nil=>intro a h; exact h
  |cons r l ih=>intro a h; exact ih _ (by show (if r.1=(k:Int) then min a r.hi else a)≤_; split<;>omega)
 exact this l _ (by omega)
theorem bnd_good {l:List RdI} {n:Nat} (h:bndE n l=0):(bndM n l).length≤16∧∀k,k<n→0≤((bndM n l).getD k rdD).lo∧((bndM n l).getD k rdD).lo≤((bndM n l).getD k rdD).hi∧((bndM n l).getD k rdD).hi≤70368744177664:=by
 unfold bndE at h
 cases h1:decide (l.length≤256)
 ·rw[h1] at h; cases h
 rw[h1,cond_true] at h
 cases h2:nB (n:Int)&&rdsB (n:Int) l
 ·rw[h2] at h; cases h
 rw[h2,cond_true,Int.toNat_natCast] at h
 cases h3:bndC n l
 ·rw[Bool.and_eq_true] at h2
  have hn:=h2.1
  unfold nB at hn
  rw[Bool.and_eq_true,decide_eq_true_eq,decide_eq_true_eq] at hn
  refine⟨by rw[bndM_len]; omega,fun k hk=>?_⟩
  rw[bndM_get n l hk]
  unfold bndC at h3
  rw[List.any_eq_false] at h3
  have:=h3 k (List.mem_range.2 hk)
  rw[decide_eq_true_eq] at this
  exact⟨bLo_in h2.2 k,by show bLo l k≤bHi l k; omega,bHi_in l k⟩
 ·rw[h3] at h; cases h
theorem tm_good {l:List SnI} {r:List RdI} (h:bdsE l r=0) (t:Int):rdGood (tmL l (bndM l.length r) t):=by
 unfold bdsE at h
 cases h1:decide (r.length≤256)
 ·rw[h1] at h; cases h
 rw[h1,cond_true] at h
 cases h2:snsB l
 ·rw[h2] at h; cases h
 rw[h2,cond_true] at h
 obtain⟨g1,g2⟩:=bnd_good h
 rw[bndM_len] at g1
 refine⟨Nat.le_trans (tmN_len _ _ _ _) g1,fun x hx=>?_⟩
 unfold tmL tmN at hx
 obtain⟨k,hk,rfl⟩:=List.mem_map.1 hx
 exact g2 k (List.mem_range.1 (List.mem_filter.1 hk).1)
abbrev SnSh:Sh:=.recd (.cons (.int .i64) (.cons (.int .i64) (.cons (.recd (.cons (.int .i64) (.cons (.int .i64) .nil))) .nil)))
def cdTl:Code→Code|.seq _ b=>b|c=>c
def cdHd:Code→Code|.seq a _=>a|c=>c
def cdIn:Code→Code|.block _ c=>c|.loop c=>c|c=>c
def cdOps:Code→Array Oper|.region _ o _=>o|_=>#[]
def opAt (ops : Array Oper) (i : Nat) : Oper := (ops[i]?).getD { dst := none, op := .move (.tmp 0), type := 0, pos := "", after := #[], guard := none }
noncomputable def scC:Code:=(Tryz.f41.body).getD .ret
noncomputable def sR0:Code:=cdHd scC
noncomputable def sR1:Code:=cdHd (cdTl scC)
noncomputable def sC2:Code:=cdHd (cdTl (cdTl scC))
noncomputable def sR4:Code:=cdHd (cdTl (cdTl (cdTl scC)))
noncomputable def sF5:Code:=cdHd (cdTl (cdTl (cdTl (cdTl scC))))
noncomputable def sO5:Array Oper:=cdOps (cdHd sF5)
noncomputable def sLp:Code:=cdIn (cdIn (cdTl sF5))
noncomputable def sO6:Array Oper:=cdOps (cdHd sLp)
noncomputable def sBl:Code:=cdIn (cdTl (cdTl sLp))
noncomputable def sO7:Array Oper:=cdOps (cdHd sBl)
noncomputable def sR8:Code:=cdTl sBl
noncomputable def sO9:Array Oper:=cdOps (cdHd (cdTl (cdTl (cdTl (cdTl (cdTl scC))))))
noncomputable def sEnd:Code:=cdTl (cdTl (cdTl (cdTl (cdTl (cdTl scC)))))
theorem scC_eq:scC=.seq sR0 (.seq sR1 (.seq sC2 (.seq sR4 (.seq (.seq (.region 5 sO5 false) (.block 0 (.loop sLp))) (.seq (.region 9 sO9 false) sEnd))))):=by kernel_rfl
theorem sLp_eq:sLp=.seq (.region 6 sO6 false) (.seq (.cond (.tmp 25) .skip (.exit 0)) (.block 1 (.seq (.region 7 sO7 false) sR8))):=by kernel_rfl
theorem sO5_0:sO5[0]?=some (opAt sO5 0)∧(opAt sO5 0).guard=none∧(opAt sO5 0).dst=some 21:=⟨by kernel_rfl,by kernel_rfl,by kernel_rfl⟩
theorem sO5_1:sO5[1]?=some (opAt sO5 1)∧(opAt sO5 1).guard=none∧(opAt sO5 1).dst=some 22:=⟨by kernel_rfl,by kernel_rfl,by kernel_rfl⟩
theorem sO5_2:sO5[2]?=some (opAt sO5 2)∧(opAt sO5 2).guard=none∧(opAt sO5 2).dst=some 23∧(opAt sO5 2).op=.range 152 (.tmp 22):=⟨by kernel_rfl,by kernel_rfl,by kernel_rfl,by kernel_rfl⟩
theorem sO6_0:sO6[0]?=some (opAt sO6 0)∧(opAt sO6 0).guard=none∧(opAt sO6 0).dst=some 24∧(opAt sO6 0).op=.next (.tmp 23) false:=⟨by kernel_rfl,by kernel_rfl,by kernel_rfl,by kernel_rfl⟩
theorem sO6_1:sO6[1]?=some (opAt sO6 1)∧(opAt sO6 1).guard=none∧(opAt sO6 1).dst=some 25∧(opAt sO6 1).op=.extract (.tmp 24) 0:=⟨by kernel_rfl,by kernel_rfl,by kernel_rfl,by kernel_rfl⟩
theorem sO7_0:sO7[0]?=some (opAt sO7 0)∧(opAt sO7 0).guard=none∧(opAt sO7 0).dst=some 26∧(opAt sO7 0).op=.entry (.tmp 23):=⟨by kernel_rfl,by kernel_rfl,by kernel_rfl,by kernel_rfl⟩
theorem sO9_0:sO9[0]?=some (opAt sO9 0)∧(opAt sO9 0).guard=none∧(opAt sO9 0).dst=some 32∧(opAt sO9 0).op=.move (.tmp 9):=⟨by kernel_rfl,by kernel_rfl,by kernel_rfl,by kernel_rfl⟩
theorem sO9_1:sO9[1]?=some (opAt sO9 1)∧(opAt sO9 1).guard=none∧(opAt sO9 1).dst=some 33∧(opAt sO9 1).op=.call { callee:=.value (.func 79),args:=#[.tmp 32,.func 80],argTypes:=#[98,155] }:=⟨by kernel_rfl,by kernel_rfl,by kernel_rfl,by kernel_rfl⟩
theorem sOs_size:sO5.size=3∧sO6.size=2∧sO7.size=4∧sO9.size=2:=⟨by kernel_rfl,by kernel_rfl,by kernel_rfl,by kernel_rfl⟩
noncomputable def msdK:Fsp:=fun _ args k=>match args with
 | [.ro (.recd (.cons (.int .i64) (.cons (.int .i64) (.cons (.recd (.cons (.int .i64) (.cons (.int .i64) .nil))) .nil)))) l,.ro (.recd (.cons (.int .i64) (.cons (.int .i64) (.cons (.int .i64) .nil)))) r]=>bif bdsE l r==0 then k (.ret (.tup [.ro RdSh (bndM l.length r),.agg [.ro RdSh (tmL l (bndM l.length r) 0),.ro RdSh (tmL l (bndM l.length r) 1)],.int .i64 0])) else none
 |_=>none
theorem msdK_ok:FspOk Tryz.prog 77 msdK where
 enter:=msdS_ok.enter
 nat:=by intro α args k; unfold msdK; split<;>simp only[cond_bind,Option.bind_some,Option.bind_none]
 calls:=fun args out hout=>msdS_ok.calls args out (by
  unfold msdK at hout
  unfold msdS
  split at hout
  ·rename_i l r
   cases h:bdsE l r==0
   ·rw[h] at hout; cases hout
   ·rw[h] at hout; simp only[h,cond_true] at hout ⊢; exact hout
  ·cases hout)
noncomputable def fsM4k:FuncId→Option Fsp:=fun g=>if g=77 then some msdK else fsM4 g
theorem fsM4k_ok:FsOk fsM4k:=fs_cons msdK_ok fsM4_ok
def aN (l:List (Nat × AVal)):List AVal:=l.foldl (fun t p=>t.set p.1 p.2) (List.replicate 35 .any)
abbrev s38 (xs:List ScI):ABlk:=.row true 102 nmSh xs
def sc2T (l:List SnI) (r b x y:List RdI):List AVal:=[.ro SnSh l,.ro RdSh r,.undef,.undef,.own 0,.int .i64 0,.ro RdSh b,.op 3 0,.int .i64 0,.undef,.undef,.tup [.ro RdSh b,.agg [.ro RdSh x,.ro RdSh y],.int .i64 0],.ro SnSh l,.ro RdSh r,.tup [.ro RdSh b,.agg [.ro RdSh x,.ro RdSh y],.int .i64 0],.ro RdSh b,.agg [.ro RdSh x,.ro RdSh y],.int .i64 0]++List.replicate 17 .undef
def sc2H (x y:List RdI):List ABlk:=[s38 [],.row true 147 RdSh [],.row true 147 RdSh [],.box true [.ro RdSh x,.ro RdSh y]]
set_option maxRecDepth 100000 in
theorem sc_r0 (N n0:Nat) (l:List SnI) (r:List RdI):ev real tab ((twY fsM4k spM0).env real tab N n0) N sR0 ⟨[.ro SnSh l,.ro RdSh r]++List.replicate 33 .undef,[]⟩ pairE=some (.normal,⟨[.ro SnSh l,.ro RdSh r,.undef,.undef,.own 0,.int .i64 0]++List.replicate 29 .undef,[s38 []]⟩):=by kernel_rfl
set_option maxRecDepth 100000 in
theorem sc_r1' (N n0:Nat) (l:List SnI) (r:List RdI):ev real tab ((twY fsM4k spM0).env real tab N n0) N sR1 ⟨[.ro SnSh l,.ro RdSh r,.undef,.undef,.own 0,.int .i64 0]++List.replicate 29 .undef,[s38 []]⟩ pairE =
 bif bdsE l r==0 then some (.normal,⟨sc2T l r (bndM l.length r) (tmL l (bndM l.length r) 0) (tmL l (bndM l.length r) 1),sc2H (tmL l (bndM l.length r) 0) (tmL l (bndM l.length r) 1)⟩) else none:=by kernel_rfl
set_option maxRecDepth 100000 in
theorem sc_c2 (N n0:Nat) (x y:List RdI):ev real tab ((twY fsM4 spM0).env real tab N n0) N sC2 ⟨aN [(7,.op 3 0),(8,.int .i64 0)],sc2H x y⟩ pairE=some (.normal,⟨aN [(7,.op 3 0),(8,.int .i64 0),(18,.int .i64 0),(19,.bool false)],sc2H x y⟩):=by kernel_rfl
set_option maxRecDepth 100000 in
theorem sc_r4 (N n0:Nat) (x y:List RdI):ev real tab ((twY fsM4 spM0).env real tab N n0) N sR4 ⟨aN [(7,.op 3 0)],sc2H x y⟩ pairE=some (.normal,⟨aN [(7,.op 3 0),(9,.own 4)],sc2H x y++[s38 []]⟩):=by kernel_rfl
set_option maxRecDepth 100000 in
theorem sc_o50 (N n0:Nat) (x y:List RdI):evOp real tab ((twY fsM4 spM0).env real tab N n0) false (opAt sO5 0) ⟨aN [(7,.op 3 0),(9,.own 4)],sc2H x y++[s38 []]⟩ (fun x v s=>some (x,v,s))=some (.normal,.agg [.ro RdSh x,.ro RdSh y],⟨aN [(7,.op 3 0),(9,.own 4)],sc2H x y++[s38 []]⟩):=by kernel_rfl
def scH1 (m:ScM):List ABlk:=[s38 [],.dead,.row true 152 (.mp nmSh .bool) m,.dead]
set_option maxRecDepth 100000 in
theorem sc_o51' (N n0:Nat) (α:Type) (x y:List RdI) (k:AExit→AVal→AS→Option α):evOp real tab ((twY fsM4 spM0).env real tab N (n0+14)) false (opAt sO5 1) ⟨aN [(9,.own 0),(21,.agg [.ro RdSh x,.ro RdSh y])],[s38 []]⟩ k =
 scX N x y fun m=>k .normal (.own 2) ⟨aN [(9,.own 0),(21,.agg [.ro RdSh x,.ro RdSh y])],scH1 m⟩:=by kernel_rfl
theorem sc_o51 (n0:Nat) {x y:List RdI} (hx:rdGood x) (hy:rdGood y):evOp real tab ((twY fsM4 spM0).env real tab 20 (n0+14)) false (opAt sO5 1) ⟨aN [(9,.own 0),(21,.agg [.ro RdSh x,.ro RdSh y])],[s38 []]⟩ (fun x v s=>some (x,v,s)) =
 some (.normal,.own 2,⟨aN [(9,.own 0),(21,.agg [.ro RdSh x,.ro RdSh y])],scH1 (scM x y)⟩):=(sc_o51' 20 n0 _ x y _).trans (scX_eq (Nat.le_refl _) hx hy _)
def scQ (t n:Int):AVal:=.agg [.int .i64 t,.int .i64 n]
set_option maxRecDepth 100000 in
theorem sc_r7 (N n0:Nat) (t n:Int) (xs:List ScI):evOps real tab ((twY fsM4 spM0).env real tab N n0) false sO7 sO7.toList.tail ⟨aN [(9,.own 0),(26,.tup [scQ t n,.any])],[s38 xs]⟩ pairE =
 some (.normal,⟨aN [(9,.own 0),(26,.tup [scQ t n,.any]),(27,scQ t n),(10,.op 1 0)],[s38 xs,.box true [.int .i64 t,.int .i64 n]]⟩):=by kernel_rfl
set_option maxRecDepth 100000 in
theorem sc_end (N n0:Nat) (xs:List ScI):ev real tab ((twY fsM4 spM0).env real tab N n0) N sEnd ⟨aN [(9,.ro nmSh xs)],[.dead]⟩ pairE=some (.ret,⟨aN [(9,.ro nmSh xs),(34,.ro nmSh xs),(4,.ro nmSh xs),(5,.int .i64 0)],[.dead]⟩):=by kernel_rfl
end Go.Proofs.YtneedmplkodcjaaGreat
