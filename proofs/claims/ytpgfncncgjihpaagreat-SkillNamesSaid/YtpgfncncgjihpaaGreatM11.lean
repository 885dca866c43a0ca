/- Parts of the proof, in build order. -/
import Derived.Test.YtpgfncncgjihpaaGreatM5
import Derived.ProofKit
import Derived.Test.YtpgfncncgjihpaaGreatChecked
import Derived.Test.YtpgfncncgjihpaaGreatM6
import Derived.Test.YtpgfncncgjihpaaGreatM10
import Derived.Test.YtpgfncncgjihpaaGreatM8
import Derived.Maps.RangeRun
import Derived.Shelf.SlSortCmp.NoneTotal
import Derived.Test.YtpgfncncgjihpaaGreatM7
namespace Go.Proofs.YtpgfncncgjihpaaGreat
open Go.RowKit
mutual
def fitB (P:Program):Sh→TypeId→Bool
 |.int k,t=>
  match P.underlying t with
  |some (.int j)=>decide (j=k)
  |_=>false
 |.bool,t=>
  match P.underlying t with
  |some .bool=>true
  |_=>false
 |.str,t=>
  match P.underlying t with
  |some .string=>true
  |_=>false
 |.recd fs,t=>
  match P.underlying t with
  |some (.struct l)=>decide (P.cellsOf t=fs.size)&&fitsB P fs l.toList 0
  |some (.array n u)=>decide (P.cellsOf t=fs.size)&&fitsA P fs u n
  |_=>false
 |.sl e,t=>
  match P.underlying t with
  |some (.slice u)=>decide (P.cellsOf u=e.size)&&decide (0<e.size)&&fitB P e u
  |_=>false
 |.mp _ _,_=>false
def fitsB (P:Program):Shs→List Field→Nat→Bool
 |.nil,[],_=>true
 |.cons s r,f::q,n=>decide (f.offset=n)&&decide (P.cellsOf f.type=s.size)&&fitB P s f.type&&fitsB P r q (n+s.size)
 |_,_,_=>false
def fitsA (P:Program):Shs→TypeId→Nat→Bool
 |.nil,_,0=>true
 |.cons s r,u,n+1=>decide (P.cellsOf u=s.size)&&fitB P s u&&fitsA P r u n
 |_,_,_=>false
end
mutual
def Wf:(s:Sh)→s.ty→Prop
 |.int k,n=>(Lit.int k n).wf=true
 |.bool,_=>True
 |.str,s=>s.size≤maxLen
 |.recd fs,x=>Wfs fs x
 |.sl e,xs=>List.length (α:=e.ty) xs≤maxLen∧∀x,List.Mem (α:=e.ty) x xs→Wf e x
 |.mp _ _,_=>False
def Wfs:(fs:Shs)→fs.ty→Prop
 |.nil,_=>True
 |.cons s r,x=>Wf s x.1∧Wfs r x.2
end
theorem opened_cells {w:World} {base n:Nat} {a:Addr} {cs:List Value} (h:w.cells? base a n=some cs):cs.length=n∧∀i,i<n→w.cell? (a.add i)=cs[i]?:=by
 unfold World.cells? at h
 split at h
 ·exact⟨by simpa using mapM_some_length h,fun i hi=>mapM_some_get h i i (by simp[hi])⟩
 ·cases h
def gA (w:World):Gh:=⟨fun _=>Go.undef,fun b=>b<w.heap.size⟩
section
variable {P:Program} {H:Type} {enc:TypeId × Value→H} {w:World} {base:Nat} {spare:Nat→Bool} {held:Bool}
def Opens (w:World) (s:Sh) (y:s.ty) (cs:List Value):Prop:=Wf s y∧cs.length=s.size∧∀(j:Nat) c v,(s.cells y)[j]?=some c→cs[j]?=some v→Rep [] (gA w) w c v
theorem open_row {e:Sh} {a:Addr} {len cap:Nat} (hl:len≤cap) (hm:cap≤maxLen) (h0:0<e.size)
  (each:∀i,i<len→∃cs,w.cells? base (a.add (i*e.size)) e.size=some cs∧∃y:e.ty,Opens w e y cs):∃y:(Sh.sl e).ty,Opens w (.sl e) y [.slice (some a) len cap]:=by
 rcases Nat.eq_zero_or_pos len with hz|hp
 ·subst hz
  refine⟨([]:List e.ty),⟨Nat.zero_le _,fun x hx=>by cases hx⟩,rfl,fun j c v hc hv=>?_⟩
  match j with
  |0=>cases hc; cases hv; exact .ro0 e _ _ hm fun h=>by cases h
  |j+1=>cases hv
 ·obtain⟨b,o,spot⟩:=a
  have hb:b<w.heap.size:=by
   obtain⟨cs,h1,_⟩:=each 0 hp
   have:=World.cells?_block h1 h0
   unfold Addr.add at this
   split at this<;>exact this
  have hspot:spot=none:=by
   obtain⟨cs,h1,y,_,h2,_⟩:=each 0 hp
   obtain⟨hl,hc⟩:=opened_cells h1
   have h3:=hc 0 h0
   rw[List.getElem?_eq_getElem (by omega)] at h3
   simpa[Addr.add] using World.cell?_spot h3
  subst hspot
  have hadd:∀o i,(Addr.mk b o none).add i=⟨b,o+i,none⟩:=fun o i=>Addr.add_lit ..
  let f:Nat→e.ty:=fun i=>if h:i<len then Classical.choose (Classical.choose_spec (each i h)).2 else e.dflt
  have hf:∀i,i<len→∃cs,w.cells? base (Addr.add ⟨b,o,none⟩ (i*e.size)) e.size=some cs∧Opens w e (f i) cs:=fun i hi=>by
   refine⟨Classical.choose (each i hi),(Classical.choose_spec (each i hi)).1,?_⟩
   simp only[f,dif_pos hi]
   exact Classical.choose_spec (Classical.choose_spec (each i hi)).2
  have hget:∀(n:Nat) (x:e.ty),((List.range len).map f)[n]?=some x→n<len∧x=f n:=fun n x hn=>by
   rw[List.getElem?_map] at hn
   rcases Nat.lt_or_ge n len with hlt|hge
   ·rw[List.getElem?_range hlt] at hn; cases hn; exact⟨hlt,rfl⟩
   ·rw[List.getElem?_eq_none (by simpa using hge)] at hn; cases hn
  have hcell:∀(n:Nat) (x:e.ty) (j:Nat) c,((List.range len).map f)[n]?=some x→(e.cells x)[j]?=some c→∃u,w.cell? ⟨b,o+n*e.size+j,none⟩=some u∧Rep [] (gA w) w c u:=fun n x j c hn hc=>by
   obtain⟨hlt,rfl⟩:=hget n x hn
   obtain⟨cs,h1,_,h2,h3⟩:=hf n hlt
   obtain⟨_,h4⟩:=opened_cells h1
   have hj:j<e.size:=by rw[←Sh.cells_size e (f n)]; exact (List.getElem?_eq_some_iff.1 hc).1
   have h5:=h4 j hj
   rw[hadd,hadd] at h5
   have hcs:cs[j]?=some cs[j]:=List.getElem?_eq_getElem (by omega)
   rw[hcs] at h5
   refine⟨_,?_,h3 j c _ hc hcs⟩
   exact h5
  have hlen:((List.range len).map f).length=len:=by simp
  refine⟨(List.range len).map f,⟨by show ((List.range len).map f).length≤_; omega,fun x hx=>?_⟩,rfl,fun j c v hc hv=>?_⟩
  ·obtain⟨n,hn⟩:=List.mem_iff_getElem?.1 (show x∈(List.range len).map f from hx)
   obtain⟨hlt,rfl⟩:=hget n x hn
   obtain⟨cs,_,h2,_⟩:=hf n hlt
   exact h2
  ·match j with
   |0=>
    cases hc; cases hv
    have:=Rep.ro1 (h:=[]) (g:=gA w) (w:=w) e ((List.range len).map f) b o cap (fun n j=>(w.cell? ⟨b,o+n*e.size+j,none⟩).getD Go.undef) (by omega) (by omega) hm hb
     (fun n x j c hn hc=>by obtain⟨u,h1,_⟩:=hcell n x j c hn hc; rw[h1]; rfl)
     (fun n x j c hn hc=>by obtain⟨u,h1,h2⟩:=hcell n x j c hn hc; rw[h1]; exact h2)
    rw[hlen] at this
    exact this
   |j+1=>cases hv
theorem trod_arr {fuel n:Nat} {t u:TypeId} {cs:List Value} {x:DataW H × List MemPlace} (hu:P.underlying t=some (.array n u)) (h:DataW.trod enc P w base spare held fuel t cs=some x) :
  cs.length=P.cellsOf t∧∃m,∀i,i<n→∃y,DataW.trod enc P w base spare held m u ((cs.drop (i*P.cellsOf u)).take (P.cellsOf u))=some y:=by
 cases fuel with
 |zero=>simp[DataW.trod] at h
 |succ m=>
  unfold DataW.trod at h
  rw[hu] at h
  split at h<;>simp_all
  obtain⟨_,xs,hp,_⟩:=h
  refine⟨m,fun i hi=>?_⟩
  have hg:=mapM_some_get hp i i (by simp[hi])
  have hl:=mapM_some_length hp
  simp only[List.length_range] at hl
  rw[List.getElem?_eq_getElem (by omega)] at hg
  generalize xs[i]=p at hg
  exact⟨p.1,p.2,hg⟩
mutual
theorem open_sh:(s:Sh)→∀(t:TypeId) (fuel:Nat) (cs:List Value) (x:DataW H × List MemPlace),fitB P s t=true→DataW.trod enc P w base spare held fuel t cs=some x→∃y:s.ty,Opens w s y cs
 |.int k,t,fuel,cs,x,hf,h=>by
  simp only[fitB] at hf
  split at hf
  ·rename_i j hu
   have:=of_decide_eq_true hf
   subst this
   obtain⟨n,rfl,_,hw⟩:=DataW.trod_int hu h
   refine⟨(n:Int),hw,rfl,fun i c v hc hv=>?_⟩
   match i with
   |0=>cases hc; cases hv; exact .int _ _
   |i+1=>cases hv
  ·cases hf
 |.bool,t,fuel,cs,x,hf,h=>by
  simp only[fitB] at hf
  split at hf
  ·rename_i hu
   obtain⟨b,rfl,_⟩:=DataW.trod_bool hu h
   refine⟨b,trivial,rfl,fun i c v hc hv=>?_⟩
   match i with
   |0=>cases hc; cases hv; exact .bool _
   |i+1=>cases hv
  ·cases hf
 |.str,t,fuel,cs,x,hf,h=>by
  simp only[fitB] at hf
  split at hf
  ·rename_i hu
   obtain⟨b,rfl,_,hl⟩:=DataW.trod_string hu h
   refine⟨b,hl,rfl,fun i c v hc hv=>?_⟩
   match i with
   |0=>cases hc; cases hv; exact .str _
   |i+1=>cases hv
  ·cases hf
 |.recd fs,t,fuel,cs,x,hf,h=>by
  simp only[fitB] at hf
  split at hf
  ·rename_i l hu
   simp only[Bool.and_eq_true,decide_eq_true_eq] at hf
   obtain⟨xs,n,_,_,hl,hx,hfl⟩:=DataW.trod_struct hu h
   obtain⟨y,hy,hr⟩:=open_shs fs l.toList 0 n cs hf.2 (fun f hm=>by
    obtain⟨i,hi⟩:=List.mem_iff_getElem?.1 hm
    have hi':l[i]?=some f:=by simpa using hi
    have hlt:i<xs.length:=by rw[hx]; exact (Array.getElem?_eq_some_iff.1 hi').1
    exact⟨xs[i],by rw[hfl i f hi',List.getElem?_eq_getElem hlt]⟩) (by rw[hl,hf.1]; omega)
   refine⟨y,hy,by rw[hl,hf.1]; rfl,fun j c v hc hv=>hr j c v hc (by rw[Nat.zero_add]; exact hv)⟩
  ·rename_i n u hu
   simp only[Bool.and_eq_true,decide_eq_true_eq] at hf
   obtain⟨hl,m,hx⟩:=trod_arr hu h
   obtain⟨y,hy,hr⟩:=open_sha fs u n 0 m cs hf.2 (fun i hi=>by rw[Nat.zero_add]; exact hx i hi) (by rw[hl,hf.1]; omega)
   refine⟨y,hy,by rw[hl,hf.1]; rfl,fun j c v hc hv=>hr j c v hc (by rw[Nat.zero_mul,Nat.zero_add]; exact hv)⟩
  ·cases hf
 |.sl e,t,fuel,cs,x,hf,h=>by
  simp only[fitB] at hf
  split at hf
  ·rename_i u hu
   simp only[Bool.and_eq_true,decide_eq_true_eq] at hf
   obtain⟨⟨h1,h2⟩,h3⟩:=hf
   rcases DataW.trod_slice hu h with ⟨rfl,-⟩|⟨a,len,cap,elems,rest,n,_,rfl,_,hb,hl,hm,hlen,hel,_,_⟩
   ·refine⟨([]:List e.ty),⟨Nat.zero_le _,fun x hx=>by cases hx⟩,rfl,fun j c v hc hv=>?_⟩
    match j with
    |0=>cases hc; cases hv; exact .ro0 e _ _ (Nat.zero_le _) fun _=>rfl
    |j+1=>cases hv
   ·rw[h1] at hel
    refine open_row (base:=base) hl hm h2 fun i hi=>?_
    have he:=hel i hi
    rw[List.getElem?_eq_getElem (by omega)] at he
    obtain⟨cs,e1,e2⟩:=Option.bind_eq_some_iff.1 he
    exact⟨cs,e1,open_sh e u n cs _ h3 e2⟩
  ·cases hf
 |.mp _ _,t,fuel,cs,x,hf,h=>by simp[fitB] at hf
theorem open_shs:(fs:Shs)→∀(l:List Field) (n0 fuel:Nat) (cs:List Value),fitsB P fs l n0=true →
  (∀f∈l,∃x:DataW H × List MemPlace,DataW.trod enc P w base spare held fuel f.type ((cs.drop f.offset).take (P.cellsOf f.type))=some x)→n0+fs.size≤cs.length →
  ∃y:fs.ty,Wfs fs y∧∀(j:Nat) c v,(fs.cells y)[j]?=some c→cs[n0+j]?=some v→Rep [] (gA w) w c v
 |.nil,l,n0,fuel,cs,hf,h,hl=>⟨(),trivial,fun j c v hc=>by simp[Shs.cells] at hc⟩
 |.cons s r,[],n0,fuel,cs,hf,h,hl=>by simp[fitsB] at hf
 |.cons s r,f::q,n0,fuel,cs,hf,h,hl=>by
  simp only[fitsB,Bool.and_eq_true,decide_eq_true_eq] at hf
  obtain⟨⟨⟨h1,h2⟩,h3⟩,h4⟩:=hf
  simp only[Shs.size] at hl
  obtain⟨x,hx⟩:=h f (by simp)
  obtain⟨y1,w1,l1,r1⟩:=open_sh s f.type fuel _ x h3 hx
  obtain⟨y2,w2,r2⟩:=open_shs r q (n0+s.size) fuel cs h4 (fun f' hm=>h f' (List.mem_cons_of_mem _ hm)) (by omega)
  refine⟨(y1,y2),⟨w1,w2⟩,fun j c v hc hv=>?_⟩
  simp only[Shs.cells] at hc
  rcases Nat.lt_or_ge j s.size with hj|hj
  ·rw[List.getElem?_append_left (by rw[Sh.cells_size]; exact hj)] at hc
   refine r1 j c v hc ?_
   rw[h1,h2,List.getElem?_take,if_pos hj,List.getElem?_drop]
   exact hv
  ·rw[List.getElem?_append_right (by rw[Sh.cells_size]; exact hj),Sh.cells_size] at hc
   refine r2 _ c v hc ?_
   rw[show n0+s.size+(j-s.size)=n0+j by omega]
   exact hv
theorem open_sha:(fs:Shs)→∀(u:TypeId) (n i0 fuel:Nat) (cs:List Value),fitsA P fs u n=true →
  (∀i,i<n→∃x:DataW H × List MemPlace,DataW.trod enc P w base spare held fuel u ((cs.drop ((i0+i)*P.cellsOf u)).take (P.cellsOf u))=some x)→i0*P.cellsOf u+fs.size≤cs.length →
  ∃y:fs.ty,Wfs fs y∧∀(j:Nat) c v,(fs.cells y)[j]?=some c→cs[i0*P.cellsOf u+j]?=some v→Rep [] (gA w) w c v
 |.nil,u,n,i0,fuel,cs,hf,h,hl=>⟨(),trivial,fun j c v hc=>by simp[Shs.cells] at hc⟩
 |.cons s r,u,0,i0,fuel,cs,hf,h,hl=>by simp[fitsA] at hf
 |.cons s r,u,n+1,i0,fuel,cs,hf,h,hl=>by
  simp only[fitsA,Bool.and_eq_true,decide_eq_true_eq] at hf
  obtain⟨⟨h2,h3⟩,h4⟩:=hf
  simp only[Shs.size] at hl
  obtain⟨x,hx⟩:=h 0 (by omega)
  obtain⟨y1,w1,l1,r1⟩:=open_sh s u fuel _ x h3 hx
  have hm:(i0+1)*P.cellsOf u=i0*P.cellsOf u+s.size:=by rw[Nat.add_mul,Nat.one_mul,h2]
  obtain⟨y2,w2,r2⟩:=open_sha r u n (i0+1) fuel cs h4 (fun i hi=>by
   have:=h (i+1) (by omega)
   rwa [show i0+(i+1)=i0+1+i by omega] at this) (by rw[hm]; omega)
  refine⟨(y1,y2),⟨w1,w2⟩,fun j c v hc hv=>?_⟩
  simp only[Shs.cells] at hc
  rcases Nat.lt_or_ge j s.size with hj|hj
  ·rw[List.getElem?_append_left (by rw[Sh.cells_size]; exact hj)] at hc
   refine r1 j c v hc ?_
   rw[h2,Nat.add_zero,List.getElem?_take,if_pos hj,List.getElem?_drop,←h2]
   exact hv
  ·rw[List.getElem?_append_right (by rw[Sh.cells_size]; exact hj),Sh.cells_size] at hc
   refine r2 _ c v hc ?_
   rw[hm,show i0*P.cellsOf u+s.size+(j-s.size)=i0*P.cellsOf u+j by omega]
   exact hv
end
end
open Go.ChangeAt Go.ChangeShapes Go.WideShapes
theorem own_knob:ownKnob Tryz.prog.godebug=none:=by kernel_rfl
theorem laid_out:laidOutB Tryz.prog=true:=by kernel_rfl
theorem post_of_below {H:Type} {enc:TypeId × Value→H} {P:Program} {f:Func} {s:ChangeSpec} {apart fresh handsOn again:Bool} {W W':World} {args:Array Value} {v:Value} {ds gs:List (DataW H)} {before pa pv:List MemPlace}
  (hW:DataW.Whole enc P f.params.toList s.vars apart W args.toList ds gs before)
  (hres:∀(b:Nat) (sp:Nat→Bool) (hd:Bool),DataW.TrodAll enc P W' b sp hd f.resultTypes.toList (v.resultList f.resultTypes.size) (s.fn H (ds++gs)).results [])
  (hargs:∀sp:Nat→Bool,(∀p∈before,sp p.block=true)→DataW.TrodAll enc P W' 0 sp true f.params.toList args.toList (s.fn H (ds++gs)).args pa)
  (hvars:∀sp:Nat→Bool,(∀p∈before,sp p.block=true)→DataW.TrodVars enc P W' sp s.vars (s.fn H (ds++gs)).vars pv)
  (hps:before=pa++pv) (hb:Below W.heap.size W W')
  (hok:∀(j:Nat) (t:TypeId) (r:Value),f.resultTypes[j]?=some t→(v.resultList f.resultTypes.size)[j]?=some r→Value.okWide P W' .any 0 t r) :
  s.post enc P f apart fresh handsOn again W args v W':=by
 have hold:∀p∈before,(fun b=>decide (b<W.heap.size)) p.block=true:=fun p hp=>by simpa using hW.lt p hp
 have hlt:=hW.lt
 refine⟨ds,gs,before,[],pa,pv,hW,hres _ _ _,hargs _ hold,hvars _ hold,hb.frame _,fun _=>?_⟩
 obtain⟨_,_,_,_,_,hz,hn⟩:=hW
 refine⟨hok,_,_,([]++pa)++pv,⟨[]++pa,pv,trodAll_append (hargs _ (fun _ _=>rfl)) (hres _ _ _),hvars _ (fun _ _=>rfl),rfl,?_,?_⟩,?_⟩
 ·intro b off hp
  have hm:MemPlace.cell b off∈before:=by rw[hps]; simpa using hp
  rw[hb.frozen (p:=⟨b,off,none⟩) (hlt _ hm)]
  exact hz b off hm
 ·intro ha
  have:=hn ha
  rw[hps] at this
  simpa using this
 ·intro p hp _
  rw[hps]
  simpa using hp
def Shs.vals:(fs:Shs)→fs.ty→List AVal
 |.nil,_=>[]
 |.cons s r,x=>s.val x.1::r.vals x.2
def fitsT (P:Program):Shs→List TypeId→Bool
 |.nil,[]=>true
 |.cons s r,t::q=>fitB P s t&&(P.readableRec t&&decide (t<P.types.size))&&fitsT P r q
 |_,_=>false
section
variable {P:Program} {H:Type} {enc:TypeId × Value→H} {w:World} {base:Nat} {spare:Nat→Bool} {held:Bool}
theorem open_arg {s:Sh} {t:TypeId} {v:Value} {d:DataW H} {ps:List MemPlace} {r:Reach} {b0:Nat} (hf:fitB P s t=true) (hv:Value.okWide P w r b0 t v) (h:DataW.Trod enc P w base spare held t v d ps) :
  ∃y:s.ty,Wf s y∧Rep [] (gA w) w (s.val y) v:=by
 obtain⟨fuel,h⟩:=h
 obtain⟨y,h1,h2,h3⟩:=open_sh s t fuel _ _ hf h
 refine⟨y,h1,?_⟩
 have one:(∀a,v≠.agg a)→s.cells y=[s.val y]→Rep [] (gA w) w (s.val y) v:=fun hn hc=>by
  have hcv:v.cells.toList=[v]:=by cases v<;>first|rfl|exact absurd rfl (hn _)
  exact h3 0 _ v (by rw[hc]; rfl) (by rw[hcv]; rfl)
 cases s with
 |recd fs=>
  simp only[fitB] at hf
  split at hf
  ·rename_i l hu
   simp only[Value.okWide,hu] at hv
   obtain⟨cs,rfl,_⟩:=hv
   refine .agg _ _ ((Sh.cells_size (.recd fs) y).trans (by simpa[Value.cells] using h2.symm)) fun j c x hc hx=>h3 j c x hc (by simpa[Value.cells] using hx)
  ·rename_i n u hu
   simp only[Value.okWide,hu] at hv
   obtain⟨cs,rfl,_⟩:=hv
   refine .agg _ _ ((Sh.cells_size (.recd fs) y).trans (by simpa[Value.cells] using h2.symm)) fun j c x hc hx=>h3 j c x hc (by simpa[Value.cells] using hx)
  ·cases hf
 |int k=>
  refine one (fun a e=>?_) rfl
  subst e
  simp only[fitB] at hf
  split at hf
  ·rename_i j hu
   simp[Value.okWide,hu,Cell.okWide,Cell.ok] at hv
  ·cases hf
 |bool=>
  refine one (fun a e=>?_) rfl
  subst e
  simp only[fitB] at hf
  split at hf
  ·rename_i hu
   simp[Value.okWide,hu,Cell.okWide,Cell.ok] at hv
  ·cases hf
 |str=>
  refine one (fun a e=>?_) rfl
  subst e
  simp only[fitB] at hf
  split at hf
  ·rename_i hu
   simp[Value.okWide,hu,Cell.okWide,Cell.ok] at hv
  ·cases hf
 |mp k v=>simp[fitB] at hf
 |sl e0=>
  refine one (fun a e=>?_) rfl
  subst e
  simp only[fitB] at hf
  split at hf
  ·rename_i u hu
   simp[Value.okWide,hu,Cell.okWide,Cell.ok] at hv
  ·cases hf
theorem open_all {r:Reach} {b0:Nat}:∀(ss:Shs) (ts:List TypeId) (vs:List Value) (ds:List (DataW H)) (ps:List MemPlace),fitsT P ss ts=true→DataW.TrodAll enc P w base spare held ts vs ds ps →
  (∀(j:Nat) t v,ts[j]?=some t→vs[j]?=some v→Value.okWide P w r b0 t v) →
  ∃ys:ss.ty,Wfs ss ys∧(ss.vals ys).length=vs.length∧ds.length=ts.length∧∀(j:Nat) c v,(ss.vals ys)[j]?=some c→vs[j]?=some v→Rep [] (gA w) w c v
 |.nil,[],vs,ds,ps,hf,h,hv=>by
  obtain⟨rfl,rfl,rfl⟩:=trodAll_nil h
  exact⟨(),trivial,rfl,rfl,fun j c v hc=>by simp[Shs.vals] at hc⟩
 |.cons s q,[],vs,ds,ps,hf,h,hv=>by simp[fitsT] at hf
 |.nil,_::_,vs,ds,ps,hf,h,hv=>by simp[fitsT] at hf
 |.cons s q,t::ts,vs,ds,ps,hf,h,hv=>by
  simp only[fitsT,Bool.and_eq_true] at hf
  obtain⟨v,vs',d,ds',p1,p2,rfl,rfl,rfl,h1,h2⟩:=trodAll_cons h
  obtain⟨y,a1,a2⟩:=open_arg hf.1.1 (hv 0 t v rfl rfl) h1
  obtain⟨ys,b1,b2,b3,b4⟩:=open_all q ts vs' ds' p2 hf.2 h2 fun j t v ht hv'=>hv (j+1) t v (by simpa using ht) (by simpa using hv')
  refine⟨(y,ys),⟨a1,b1⟩,by simp[Shs.vals,b2],by simp[b3],fun j c v hc hv'=>?_⟩
  cases j with
  |zero=>
   simp only[Shs.vals,List.getElem?_cons_zero,Option.some.injEq] at hc hv'
   subst hc; subst hv'; exact a2
  |succ j=>exact b4 j c v (by simpa[Shs.vals] using hc) (by simpa using hv')
theorem all_stays (hl:laidOutB P=true) {W W':World} {sp':Nat→Bool}:∀(ss:Shs) (ts:List TypeId) (vs:List Value) (ds:List (DataW H)) (ps:List MemPlace),fitsT P ss ts=true→DataW.TrodAll enc P W base (fun _=>true) true ts vs ds ps →
  (∀p∈ps,W.sameAt W' p)→(∀p∈ps,sp' p.block=true)→DataW.TrodAll enc P W' base sp' true ts vs ds ps
 |.nil,[],vs,ds,ps,hf,h,_,_=>by
  obtain⟨rfl,rfl,rfl⟩:=trodAll_nil h
  rfl
 |.cons s q,[],vs,ds,ps,hf,h,_,_=>by simp[fitsT] at hf
 |.nil,_::_,vs,ds,ps,hf,h,_,_=>by simp[fitsT] at hf
 |.cons s q,t::ts,vs,ds,ps,hf,h,h1,h2=>by
  simp only[fitsT,Bool.and_eq_true,decide_eq_true_eq] at hf
  obtain⟨v,vs',d,ds',p1,p2,rfl,rfl,rfl,a1,a2⟩:=trodAll_cons h
  exact⟨p1,p2,WideElems.Trod_stays hl hf.1.2.1 hf.1.2.2 a1 (fun p hp=>h1 p (by simp[hp])) (fun p hp=>h2 p (by simp[hp])),
   all_stays hl q ts vs' ds' p2 hf.2 a2 (fun p hp=>h1 p (by simp[hp])) (fun p hp=>h2 p (by simp[hp])),rfl⟩
theorem law_post {F:List AVal→Option AOut} {fid:FuncId} {fn:Func} {s:ChangeSpec} {apart fresh handsOn again:Bool} (hF:FspOk P fid (toFsp F)) (hl:laidOutB P=true) (ss:Shs) (hfit:fitsT P ss fn.params.toList=true) (hnv:s.vars=[])
  {tb:TypeId} (hres:fn.resultTypes=#[tb]) (hb:P.underlying tb=some .bool) (hlaw:∀ys:ss.ty,Wfs ss ys→F (ss.vals ys)=some (.ret (.bool true)))
  (hfn:∀ds:List (DataW H),ds.length=fn.params.toList.length→(s.fn H ds).results=[.lit (.bool true)]∧(s.fn H ds).args=ds∧(s.fn H ds).vars=[])
  {W:World} {b0:Nat} {args:Array Value} {ds gs:List (DataW H)} {before:List MemPlace}
  (hval:∀(j:Nat) t v,fn.params[j]?=some t→args[j]?=some v→Value.okWide P W .any b0 t v) (hW:DataW.Whole enc P fn.params.toList s.vars apart W args.toList ds gs before) :
  Calls P fid args W fun e W'=>∃v,e=.returned v∧s.post enc P fn apart fresh handsOn again W args v W':=by
 have hW':=hW
 obtain⟨p,q,hA,hV,rfl,hfz,hnd⟩:=hW
 rw[hnv] at hV
 obtain⟨rfl,rfl⟩:=trodVars_none hV
 obtain⟨ys,h1,h2,h3,h4⟩:=open_all ss _ _ _ _ hfit hA fun j t v ht hv=>hval j t v (by simpa using ht) (by simpa using hv)
 have hcall:=hF.calls (ss.vals ys) (.ret (.bool true)) (by unfold toFsp; rw[hlaw ys h1]) (fun b=>b<W.heap.size) W args (fun b hb=>hb) (by simpa using h2) fun j c x hc hx=>h4 j c x hc (by simpa using hx)
 refine hcall.mono fun e W' hp=>?_
 obtain⟨M',_,_,_,hbl,x,rfl,hr⟩:=hp
 have:=rep_bool hr
 subst this
 obtain⟨f1,f2,f3⟩:=hfn ds h3
 have hlt:∀x∈p,x.block<W.heap.size:=fun x hx=>hW'.lt x (by simpa using hx)
 refine⟨_,rfl,post_of_below (pa:=p++[]) (pv:=[]) hW' (fun b sp hd=>?_) (fun sp hsp=>?_) (fun sp hsp=>?_) (by simp) hbl (ok_one hres rfl (okWide_bool_mk hb _))⟩
 ·rw[List.append_nil,f1,hres]
  exact trodAll_mk1 (shut_bool hb _)
 ·rw[List.append_nil,f2,List.append_nil]
  exact all_stays hl ss _ _ _ _ hfit hA (fun x hx=>hbl.same (hlt x hx)) fun x hx=>hsp x (by simpa using hx)
 ·rw[List.append_nil,f3,hnv]
  rfl
end
end Go.Proofs.YtpgfncncgjihpaaGreat
namespace Go.Proofs.YtpgfncncgjihpaaGreat
open Go.RowKit
def WpR (P:Program) (c:Code) (Q:Exit→Act→World→Prop) (a:Act) (w:World):Prop:=∀b:Frame,FnIn b.fn→b.roundOf=none→WpB b P c Q a w
theorem wpB_mono {b:Frame} {P:Program} {c:Code} {Q Q':Exit→Act→World→Prop} {a:Act} {w:World} (h:WpB b P c Q a w) (f:∀e a w,Q e a w→Q' e a w):WpB b P c Q' a w:=fun k cs=>
 let ⟨e,a',w',q,r⟩:=h k cs
 ⟨e,a',w',f e a' w' q,r⟩
section
variable {P:Program} {Q:Exit→Act→World→Prop} {a:Act} {w:World}
theorem wpR_seq {x y:Code} (h:WpR P x (Exit.then (WpR P y Q) Q) a w):WpR P (.seq x y) Q a w:=fun b hx hr=>wpB_seq (wpB_mono (h b hx hr) fun e a' w' q=>by
 cases e with
 |normal=>exact q b hx hr
 |_=>exact q)
theorem wpR_cond {o:Operand} {x y:Code} {t:Bool} (hc:a.eval o=.bool t) (h:WpR P (if t then x else y) Q a w):WpR P (.cond o x y) Q a w:=fun b hx hr=>wpB_cond hc (h b hx hr)
theorem wpR_skip (h:Q .normal a w):WpR P .skip Q a w:=fun _ _ _=>wpB_of (wpIn_skip h)
theorem wpR_region {id:Nat} {ops:Array Oper} (h:wpOpsIn (FW none) 0 P ops Q (List.range ops.size) a w):WpR P (.region id ops false) Q a w:=fun b _ hr=>wpB_of (by rw[hr]; exact wpIn_region h)
end
section
variable {P:Program} {T:Tab} {env:Env} {K0:Nat→Prop} {g0:Gh} {w0:World}
structure Mid (K0:Nat→Prop) (g0:Gh) (w0:World) (h:List ABlk) (tm:List AVal) (a:Act) (w:World) (K:Nat→Prop) (g:Gh):Prop where
 kk:∀b,K0 b→K b
 st:St K h g w
 le:Le K0 [] g0 w0 h g w
 tr:TRep h g w tm a.tmps
 df:MRep K0 K g w a.defers
theorem Mid.turn {h tm a w K g} (m:Mid K0 g0 w0 h tm a w K g) {w':World} {r:Nat} (hos:w'.os=w.os) (hta:w'.tape=w.tape) (hou:w'.output=w.output) (hsz:w.heap.size≤w'.heap.size) (hw:∀n,n<w.heap.size→n≠r→w'.heap[n]?=w.heap[n]?)
  (h1:¬K r) (h2:¬g.M r) (h3:∀i,alive h i→blockOf (g.ρ i)≠some r):Mid K0 g0 w0 h tm a w' K g:=by
 have l:Le K h g w h g w':=⟨Nat.le_refl _,fun _ h=>h,fun _ h=>h,fun _ h=>.inl h,fun b hb=>hw b (m.st.low b hb) fun e=>h2 (e▸hb),fun b hb=>hw b (m.st.klow b hb) fun e=>h1 (e▸hb),fun _ wr cs' _ h=>⟨wr,cs',h,rfl,rfl⟩,fun _ wr _ _ xs' _ h=>⟨wr,xs',h,fun _=>rfl,rfl⟩,fun _ st pend _ _ _ _ _ h=>⟨st,pend,h,rfl⟩,fun _ _ h=>h,fun _ _ _ _ h=>h,hos,hta,hou,hsz⟩
 refine⟨m.kk,⟨fun i b hb=>(m.st.blk i b hb).mono l rfl fun n hd hn=>?_,m.st.inj,fun i b ha hb=>?_,fun b hb=>Nat.lt_of_lt_of_le (m.st.low b hb) hsz,fun b hb=>Nat.lt_of_lt_of_le (m.st.klow b hb) hsz⟩,m.le.trans (l.less m.kk),m.tr.mono l,m.df.mono l⟩
 ·exact hw n (m.st.sep i n ⟨b,hb,hd⟩ hn).2.2 fun e=>h3 i ⟨b,hb,hd⟩ (e▸hn)
 ·obtain⟨q1,q2,q3⟩:=m.st.sep i b ha hb
  exact⟨q1,q2,Nat.lt_of_lt_of_le q3 hsz⟩
theorem Mid.lock {h tm a w K g} (m:Mid K0 g0 w0 h tm a w K g) {r:Nat} (hr:r<w.heap.size) (h3:∀i,alive h i→blockOf (g.ρ i)≠some r):Mid K0 g0 w0 h tm a w (fun b=>K b∨b=r) g:=
 ⟨fun b hb=>.inl (m.kk b hb),⟨m.st.blk,m.st.inj,fun i b ha hb=>by
  obtain⟨q1,q2,q3⟩:=m.st.sep i b ha hb
  exact⟨fun h=>h.elim q1 fun e=>h3 i ha (e▸hb),q2,q3⟩,m.st.low,fun b hb=>hb.elim (m.st.klow b) fun e=>e▸hr⟩,m.le,m.tr,m.df.more fun b hb=>.inl hb⟩
theorem Mid.put {h tm a w K g} (m:Mid K0 g0 w0 h tm a w K g) (dst:Option Nat) {v:AVal} {x:Value} (r:Rep h g w v x):Mid K0 g0 w0 h ((⟨tm,h⟩:AS).put dst v).tmps (a.put dst x) w K g:=
 ⟨m.kk,m.st,m.le,TRep.put (s:=⟨tm,h⟩) m.tr dst r,by rw[put_defers]; exact m.df⟩
theorem wpOps_cons {ops:Array Oper} {o:Oper} {i:Nat} {l:List Nat} {a:Act} {w:World} {Q:Exit→Act→World→Prop} (h:ops[i]?=some o) (hg:o.guard=none) (hw:o.wpIn (FW none) 0 P a w (wpOpsIn (FW none) 0 P ops Q l) Q):wpOpsIn (FW none) 0 P ops Q (i::l) a w:=by
 simp only[wpOpsIn,h]
 rw[if_pos (by simp[Region.wanted,hg])]
 exact hw
end
theorem put_getD (a:Act) (dst:Option Nat) (v:Value) {t:Nat} (h:dst≠some t):(a.put dst v).tmps.getD t Go.undef=a.tmps.getD t Go.undef:=by
 cases dst with
 |none=>rfl
 |some d=>
  have hd:d≠t:=fun e=>h (e▸rfl)
  show (a.tmps.setIfInBounds d v).getD t Go.undef=_
  rw[Array.getD_eq_getD_getElem?,Array.getD_eq_getD_getElem?,Array.getElem?_setIfInBounds,if_neg hd]
theorem put_getD_same (a:Act) (d:Nat) (v:Value) (h:d<a.tmps.size):(a.put (some d) v).tmps.getD d Go.undef=v:=by
 show (a.tmps.setIfInBounds d v).getD d Go.undef=_
 rw[Array.getD_eq_getD_getElem?,Array.getElem?_setIfInBounds,if_pos rfl,if_pos h]; rfl
theorem put_size (a:Act) (dst:Option Nat) (v:Value):(a.put dst v).tmps.size=a.tmps.size:=by
 cases dst with
 |none=>rfl
 |some d=>show (a.tmps.setIfInBounds d v).size=_; exact Array.size_setIfInBounds
section
variable {K0:Nat→Prop} {g0:Gh} {w0:World}
theorem Mid.one {h tm a w K g} (m:Mid K0 g0 w0 h tm a w K g) {i:Nat} {t:TypeId} {e:Sh} {xs:List e.ty} (h0:0<e.size) (hf:∀x,∀c∈e.cells x,c.flat0=true) (hi:h[i]?=some (.row true t e xs)) {tm':List AVal}
  (ht:TRep [.row true t e xs] ⟨fun _=>g.ρ i,g.M⟩ w tm' a.tmps):Mid K0 g0 w0 [.row true t e xs] tm' a w K ⟨fun _=>g.ρ i,g.M⟩:=by
 have al:alive h i:=⟨_,hi,by simp⟩
 have one:∀(j:Nat) (b:ABlk),([.row true t e xs]:List ABlk)[j]?=some b→b=.row true t e xs:=fun j b hb=>by
  cases j with
  |zero=>simpa using hb.symm
  |succ j=>simp at hb
 have aj:∀j:Nat,alive [.row true t e xs] j→j=0:=fun j ⟨b,hb,_⟩=>by
  cases j with
  |zero=>rfl
  |succ j=>simp at hb
 refine⟨m.kk,⟨fun j b hb=>?_,fun j k b hj hk _ _=>by rw[aj j hj,aj k hk],fun j b hj hb=>m.st.sep i b al hb,m.st.low,m.st.klow⟩,?_,ht,m.df⟩
 ·rw[one j b hb]
  obtain⟨vs,h1,h2⟩:=(rowOk_iff h0).1 (m.st.blk i _ hi)
  refine (rowOk_iff (h:=[.row true t e xs]) (g:=⟨fun _=>g.ρ i,g.M⟩) h0).2 ⟨vs,h1,fun n x j c hx hc=>?_⟩
  obtain⟨u,q1,q2⟩:=h2 n x j c hx hc
  exact⟨u,q1,rep_flat0 q2 (hf x c (List.mem_of_getElem? hc))⟩
 ·have l:=m.le
  exact⟨Nat.zero_le _,fun j hj=>absurd hj.lt (Nat.not_lt_zero j),l.m,l.new,l.mw,l.k,fun j _ _ hj=>absurd hj.lt (Nat.not_lt_zero j),fun j _ _ _ _ hj=>absurd hj.lt (Nat.not_lt_zero j),fun j _ _ _ _ _ _ hj=>absurd hj.lt (Nat.not_lt_zero j),fun j _ hj=>by simp at hj,fun j _ _ _ hj=>by simp at hj,l.os,l.tape,l.output,l.size⟩
structure FspNew (P:Program) (f:FuncId) (S:Fsp):Prop where
 enter:∀args w,(callFunc f args).run P w=.ok (.enter f args) w
 nat:∀(α:Type) args (k:AOut→Option α),S α args k=(S AOut args some).bind k
 calls:∀args out,S AOut args some=some out→∀(M:Nat→Prop) w (cargs:Array Value),(∀b,M b→b<w.heap.size)→args.length=cargs.size →
  (∀(j:Nat) c x,args[j]?=some c→cargs[j]?=some x→Rep [] ⟨fun _=>Go.undef,M⟩ w c x)→Calls P f cargs w (CPost (fun _=>False) w out)
theorem CPost.more {M:Nat→Prop} {w:World} {out:AOut} {e:Ending} {w':World} (hM:∀b,M b→b<w.heap.size) (h:CPost (fun _=>False) w out e w'):CPost M w out e w':=by
 obtain⟨M',m1,m2,m3,hb,ho⟩:=h
 refine⟨fun b=>M b∨M' b,fun _ h=>.inl h,fun b h=>h.elim .inl fun h=>(m2 b h).elim (fun f=>f.elim) .inr,fun b h=>h.elim (fun h=>Nat.lt_of_lt_of_le (hM b h) hb.size) (m3 b),hb,?_⟩
 cases out with
 |ret v=>obtain⟨x,e1,e2⟩:=ho; exact⟨x,e1,rep_nil e2 fun _ h=>.inr h⟩
 |pan v=>obtain⟨x,e1,e2⟩:=ho; exact⟨x,e1,rep_nil e2 fun _ h=>.inr h⟩
theorem FspNew.ok {P:Program} {f:FuncId} {S:Fsp} (h:FspNew P f S):FspOk P f S:=
 ⟨h.enter,h.nat,fun args out ho M w cargs hM hl hr=>(h.calls args out ho M w cargs hM hl hr).mono fun e w' hp=>hp.more hM⟩
end
def thU (u p m:Int):Int:=IntKind.i64.wrap (u+IntKind.i64.wrap (IntKind.i64.wrap (m.tmod 7-3)*p))
def thV (v q m:Int):Int:=IntKind.i64.wrap (v+IntKind.i64.wrap (IntKind.i64.wrap (IntKind.i64.wrap (m.tdiv 7)-3)*q))
abbrev thB (t n x y u v s p q m:Int):BdI:=cbB t n x y (thU u p m) (thV v q m) s
abbrev ktmis (e:Int):AOut:=.pan (.ifc 145 (.agg [.int .i64 e]))
theorem kth_text (N n0:Nat) (α:Type) (t n x y u v s:Int) (b:List BrI) (p q:Int) (m:Int) (k:AOut→Option α):evFn real tab ((twY fsEn0 spKt).env real tab N (n0+12)) N Tryz.f50 α [.agg [.int .i64 t,.int .i64 n,.int .i64 x,.int .i64 y,.int .i64 u,.int .i64 v,.int .i64 s,.ro (.recd (.cons (.int .i64) (.cons (.int .i64) (.cons (.int .i64) .nil)))) b,.int .i64 p,.int .i64 q],.int .i64 m] k =
 bif !(sceE [thB t n x y u v s p q m]==0) then k (ktmis 4) else k (.ret (.agg [.int .i64 t,.int .i64 n,.int .i64 x,.int .i64 y,.int .i64 (thU u p m),.int .i64 (thV v q m),
 .int .i64 s,.bool false])):=by kernel_rfl
noncomputable def kthS:Fsp:=fun _ args k=>match args with
 | [.agg [.int .i64 t,.int .i64 n,.int .i64 x,.int .i64 y,.int .i64 u,.int .i64 v,.int .i64 s,.ro (.recd (.cons (.int .i64) (.cons (.int .i64) (.cons (.int .i64) .nil)))) _,.int .i64 p,.int .i64 q],.int .i64 m]=>bif !(sceE [thB t n x y u v s p q m]==0) then k (ktmis 4) else k (.ret (.agg [.int .i64 t,.int .i64 n,.int .i64 x,.int .i64 y,.int .i64 (thU u p m),.int .i64 (thV v q m),.int .i64 s,.bool false]))
 |_=>none
theorem kthS_ok:FspOk Tryz.prog 50 kthS:=tower_Y fsEn0_ok spKt_ok ⟨Tryz.func50,fun _ _=>by kernel_rfl⟩ (by intro α args k; unfold kthS; split<;>simp only[cond_bind,Option.bind_some,Option.bind_none]) fun args out hSm hEq=>by
 unfold kthS at hEq
 split at hEq
 ·rename_i t n x y u v s b p q m
  exact⟨1,12,(kth_text 1 0 AOut t n x y u v s b p q m some).trans hEq⟩
 ·cases hEq
abbrev bdyTy:TypeId:=65
abbrev bdyRw (l:List BdI):ABlk:=.row true bdyTy bdyS l
def clX:Cv→Cv:=fun _ _ v args h k=>
 match v,args with
 |.fn f [],[.ro (.recd (.cons (.int .i64) (.cons (.int .i64) (.cons (.recd (.cons (.recd (.cons (.int .i64) (.cons (.int .i64) .nil))) (.cons (.recd (.cons (.int .i64) (.cons (.int .i64) .nil))) (.cons (.int .i64) .nil)))) (.cons .bool .nil))))) l]=>
  if f=89 then bif shortB (X:=BdI) l then k .normal (.own h.length) (h++[bdyRw l]) else none else none
 |_,_=>none
theorem bdyS_flat:∀x:bdyS.ty,∀c∈bdyS.cells x,c.flat0=true:=fun x c hc=>by
 have:bdyS.cells x=[.int .i64 x.1,.int .i64 x.2.1,.int .i64 x.2.2.1.1.1,.int .i64 x.2.2.1.1.2.1,.int .i64 x.2.2.1.2.1.1,.int .i64 x.2.2.1.2.1.2.1,.int .i64 x.2.2.1.2.2.1,.bool x.2.2.2.1]:=rfl
 rw[this] at hc
 simp only[List.mem_cons,List.not_mem_nil,or_false] at hc
 rcases hc with rfl|rfl|rfl|rfl|rfl|rfl|rfl|rfl<;>rfl
/-! A copy, walked by hand. -/
def hcTl:Code→Code|.seq _ b=>b|c=>c
def hcHd:Code→Code|.seq a _=>a|c=>c
def hcOps:Code→Array Oper|.region _ o _=>o|_=>#[]
def hcOp (ops : Array Oper) (i : Nat) : Oper := (ops[i]?).getD { dst := none, op := .move (.tmp 0), type := 0, pos := "", after := #[], guard := none }
def hcThen:Code→Code|.cond _ a _=>a|c=>c
noncomputable def clA:Code:=(Tryz.f89.body).getD .ret
noncomputable def cl0:Array Oper:=hcOps (hcHd clA)
noncomputable def cl1:Array Oper:=hcOps (hcHd (hcHd (hcTl clA)))
noncomputable def cl2:Array Oper:=hcOps (hcHd (hcThen (hcTl (hcHd (hcTl clA)))))
noncomputable def cl3:Array Oper:=hcOps (hcHd (hcTl (hcTl clA)))
theorem clA_eq:clA=.seq (.region 0 cl0 false) (.seq (.seq (.region 1 cl1 false) (.cond (.tmp 4) (.seq (.region 2 cl2 false) .ret) .skip)) (.seq (.region 3 cl3 false) .ret)):=by kernel_rfl
abbrev bdyQ:TypeId:=30
theorem cl0_0:cl0[0]?=some (hcOp cl0 0)∧(hcOp cl0 0).guard=none∧(hcOp cl0 0).dst=some 2∧(hcOp cl0 0).op=.assign (.const (.slice none 0 0))∧cl0.size=1:=⟨by kernel_rfl,by kernel_rfl,by kernel_rfl,by kernel_rfl,by kernel_rfl⟩
theorem cl1_0:cl1[0]?=some (hcOp cl1 0)∧(hcOp cl1 0).guard=none∧(hcOp cl1 0).dst=some 3∧(hcOp cl1 0).op=.move (.tmp 0)∧cl1.size=2:=⟨by kernel_rfl,by kernel_rfl,by kernel_rfl,by kernel_rfl,by kernel_rfl⟩
theorem cl1_1:cl1[1]?=some (hcOp cl1 1)∧(hcOp cl1 1).guard=none∧(hcOp cl1 1).dst=some 4∧(hcOp cl1 1).op=.binOp .eql bdyQ (.tmp 3) (.const (.slice none 0 0)) bdyQ:=⟨by kernel_rfl,by kernel_rfl,by kernel_rfl,by kernel_rfl⟩
theorem cl2_0:cl2[0]?=some (hcOp cl2 0)∧(hcOp cl2 0).guard=none∧(hcOp cl2 0).dst=some 2∧(hcOp cl2 0).op=.assign (.const (.slice none 0 0))∧cl2.size=1:=⟨by kernel_rfl,by kernel_rfl,by kernel_rfl,by kernel_rfl,by kernel_rfl⟩
theorem cl3_0:cl3[0]?=some (hcOp cl3 0)∧(hcOp cl3 0).guard=none∧(hcOp cl3 0).dst=some 5∧(hcOp cl3 0).op=.buildSlice bdyQ 0 #[]∧cl3.size=4:=⟨by kernel_rfl,by kernel_rfl,by kernel_rfl,by kernel_rfl,by kernel_rfl⟩
theorem cl3_1:cl3[1]?=some (hcOp cl3 1)∧(hcOp cl3 1).guard=none∧(hcOp cl3 1).dst=some 6∧(hcOp cl3 1).op=.move (.tmp 0):=⟨by kernel_rfl,by kernel_rfl,by kernel_rfl,by kernel_rfl⟩
theorem cl3_2:cl3[2]?=some (hcOp cl3 2)∧(hcOp cl3 2).guard=none∧(hcOp cl3 2).dst=some 7∧(hcOp cl3 2).op=.call { callee:=.builtin .append,args:=#[.tmp 5,.tmp 6],argTypes:=#[bdyQ,bdyQ] }:=⟨by kernel_rfl,by kernel_rfl,by kernel_rfl,by kernel_rfl⟩
theorem cl3_3:cl3[3]?=some (hcOp cl3 3)∧(hcOp cl3 3).guard=none∧(hcOp cl3 3).dst=some 2∧(hcOp cl3 3).op=.assign (.tmp 7):=⟨by kernel_rfl,by kernel_rfl,by kernel_rfl,by kernel_rfl⟩
theorem eq_nil_run (w:World):(do eqGuard .eql bdyQ (.tmp 3) (.const (.slice none 0 0)) (.slice none 0 0) (.slice none 0 0); Go.binOp .eql bdyQ (.slice none 0 0) (.slice none 0 0)).run Tryz.prog w=.ok (.bool true) w:=by kernel_rfl
theorem eq_some_run (w:World) (ad:Addr) (n c:Nat):(do eqGuard .eql bdyQ (.tmp 3) (.const (.slice none 0 0)) (.slice (some ad) n c) (.slice none 0 0); Go.binOp .eql bdyQ (.slice (some ad) n c) (.slice none 0 0)).run Tryz.prog w=.ok (.bool false) w:=by kernel_rfl
theorem bs_run (w:World):(Instr.buildSlice bdyQ 0 #[]).run Tryz.prog w=.ok (.slice (some ⟨w.heap.size,0,none⟩) 0 0) (w.alloc (.cells #[] bdyTy)):=by kernel_rfl
def ClPost (w:World) (n:Nat) (vs:List Value) (e:Ending) (w':World):Prop:=∃v',e=.returned v'∧w'.ownsRow 0 bdyTy 8 v' n vs∧Below w.heap.size w w'∧∀b,v'.ownBlock=some b→w.heap.size≤b
theorem cl_ret {w w':World} {n:Nat} {vs:List Value} {a:Act} {v':Value} (hd:a.defers=[]) (h2:a.tmps.getD 2 Go.undef=v') (h:ClPost w n vs (.returned v') w'):bodyPostM (FW none) 0 Tryz.prog Tryz.f89 (ClPost w n vs) .ret a w':=by
 show LeavesInM (FW none) 0 Tryz.prog Tryz.f89 a.tmps (ClPost w n vs) a.defers .returning w'
 rw[hd]
 refine⟨v',?_,h⟩
 have hres:Tryz.f89.results=#[.tmp 2]:=by kernel_rfl
 rw[results_eq,hres,Array.mapM_eq_mapM_toList,bind_map_left,Sem.run_bind]
 show ((List.mapM (resF a.tmps) [.tmp 2]).run Tryz.prog w').andThen _=_
 rw[List.mapM_cons,Sem.run_bind]
 have:(resF a.tmps (.tmp 2)).run Tryz.prog w'=.ok v' w':=by rw[←h2]; rfl
 rw[this]
 rfl
theorem put_atE (a:Act) (d:Nat) (v:Value) {s:Nat} (h:s≠d):(a.put (some d) v).tmps.getD s Go.undef=a.tmps.getD s Go.undef:=put_getD a (some d) v fun e=>h (by cases e; rfl)
theorem wp_valE {P:Program} {o:Oper} {a:Act} {w w':World} {x:Value} {next:Act→World→Prop} {Q:Exit→Act→World→Prop} (h:(execOp a.eval o).run P w=.ok (.value x) w') (hn:next (a.put o.dst x) w'):o.wpIn (FW none) 0 P a w next Q:=wp_value h hn
theorem clone_walk {w:World} {x:Value} {n:Nat} {vs:List Value} (hn:n≤100) (hlen:vs.length=n*8) (h1:∀u∈vs,u.oneCell'=true) (hx:(x=.slice none 0 0∧n=0∧vs=[])∨∃ad c,x=.slice (some ad) n c∧∀(j:Nat) u,vs[j]?=some u→w.cell? (ad.add j)=some u∧ad.block<w.heap.size) :
  Calls Tryz.prog 89 #[x] w (ClPost w n vs):=by
 have hbody:Tryz.f89.body=some clA:=by kernel_rfl
 have hnt:Tryz.f89.ntmps=8:=by kernel_rfl
 refine calls_of_wpB Tryz.func89 hbody fun b hbf hbr=>?_
 have hfn:FnIn b.fn:=⟨_,by rw[hbf]; exact Tryz.func89⟩
 have main:WpR Tryz.prog clA (bodyPostM (FW none) 0 Tryz.prog Tryz.f89 (ClPost w n vs)) { tmps:=#[x]++Array.replicate (Tryz.f89.ntmps-(#[x]:Array Value).size) Go.undef,defers:=[] } w:=by
  rw[hnt,clA_eq]
  have g0:(#[x]++Array.replicate (8-(#[x]:Array Value).size) Go.undef).getD 0 Go.undef=x:=by
   rw[Array.getD_eq_getD_getElem?,Array.getElem?_append_left (by simp)]
   rfl
  have hsz:(#[x]++Array.replicate (8-(#[x]:Array Value).size) Go.undef).size=8:=by simp
  generalize #[x]++Array.replicate (8-(#[x]:Array Value).size) Go.undef=tmps at *
  have hdf:({ tmps:=tmps,defers:=[] }:Act).defers=[]:=rfl
  have g0':({ tmps:=tmps,defers:=[] }:Act).tmps.getD 0 Go.undef=x:=g0
  have hsz':({ tmps:=tmps,defers:=[] }:Act).tmps.size=8:=hsz
  generalize ({ tmps:=tmps,defers:=[] }:Act)=a at *
  refine wpR_seq (wpR_region ?_)
  rw[cl0_0.2.2.2.2]
  show wpOpsIn (FW none) 0 Tryz.prog cl0 _ [0] a w
  refine wpOps_cons cl0_0.1 cl0_0.2.1 (wp_valE (x:=.slice none 0 0) (w':=w) (by simp[execOp,cl0_0.2.2.2.1,Act.eval]) ?_)
  rw[cl0_0.2.2.1]
  have p1:(a.put (some 2) (.slice none 0 0)).tmps.getD 0 Go.undef=x:=(put_atE a 2 _ (by decide)).trans g0'
  have z1:(a.put (some 2) (.slice none 0 0)).tmps.size=8:=by rw[put_size]; exact hsz'
  have d1:(a.put (some 2) (.slice none 0 0)).defers=[]:=hdf
  generalize a.put (some 2) (.slice none 0 0)=a1 at *
  show WpR Tryz.prog (.seq (.seq (.region 1 cl1 false) (.cond (.tmp 4) (.seq (.region 2 cl2 false) .ret) .skip)) (.seq (.region 3 cl3 false) .ret)) _ a1 w
  refine wpR_seq (wpR_seq (wpR_region ?_))
  rw[cl1_0.2.2.2.2]
  show wpOpsIn (FW none) 0 Tryz.prog cl1 _ [0,1] a1 w
  have e0:a1.eval (.tmp 0)=x:=p1
  refine wpOps_cons cl1_0.1 cl1_0.2.1 (wp_valE (x:=x) (w':=w) (by simp[execOp,cl1_0.2.2.2.1,e0]) ?_)
  rw[cl1_0.2.2.1]
  have p2:(a1.put (some 3) x).tmps.getD 0 Go.undef=x:=(put_atE a1 3 _ (by decide)).trans p1
  have q2:(a1.put (some 3) x).eval (.tmp 3)=x:=put_getD_same a1 3 x (by omega)
  have z2:(a1.put (some 3) x).tmps.size=8:=by rw[put_size]; exact z1
  have d2:(a1.put (some 3) x).defers=[]:=d1
  generalize a1.put (some 3) x=a2 at *
  have hcn:a2.eval (.const (.slice none 0 0))=.slice none 0 0:=rfl
  rcases hx with ⟨rfl,rfl,rfl⟩|⟨ad,c,rfl,hcell⟩
  ·have hr:=eq_nil_run w
   refine wpOps_cons cl1_1.1 cl1_1.2.1 (wp_valE (x:=.bool true) (w':=w) (by
    unfold execOp
    rw[cl1_1.2.2.2]
    simp only[q2,hcn]
    rw[Sem.run_bind,hr]; rfl) ?_)
   rw[cl1_1.2.2.1]
   have q3:(a2.put (some 4) (.bool true)).eval (.tmp 4)=.bool true:=put_getD_same a2 4 _ (by omega)
   have z3:(a2.put (some 4) (.bool true)).tmps.size=8:=by rw[put_size]; exact z2
   have d3:(a2.put (some 4) (.bool true)).defers=[]:=d2
   generalize a2.put (some 4) (.bool true)=a3 at *
   refine wpR_cond (t:=true) q3 (wpR_seq (wpR_region ?_))
   rw[cl2_0.2.2.2.2]
   show wpOpsIn (FW none) 0 Tryz.prog cl2 _ [0] a3 w
   refine wpOps_cons cl2_0.1 cl2_0.2.1 (wp_valE (x:=.slice none 0 0) (w':=w) (by simp[execOp,cl2_0.2.2.2.1,Act.eval]) ?_)
   rw[cl2_0.2.2.1]
   show WpR Tryz.prog .ret _ (a3.put (some 2) (.slice none 0 0)) w
   exact fun b _ _=>wpB_of (wpIn_ret (cl_ret (w:=w) (n:=0) (vs:=[]) (v':=.slice none 0 0) (show (a3.put (some 2) (.slice none 0 0)).defers=[] from d3) (put_getD_same a3 2 _ (by omega)) ⟨_,rfl,World.ownsRow_nil w 0 bdyTy 8,Below.refl _ _,fun b e=>by cases e⟩))
  ·have hr:=eq_some_run w ad n c
   refine wpOps_cons cl1_1.1 cl1_1.2.1 (wp_valE (x:=.bool false) (w':=w) (by
    unfold execOp
    rw[cl1_1.2.2.2]
    simp only[q2,hcn]
    rw[Sem.run_bind,hr]; rfl) ?_)
   rw[cl1_1.2.2.1]
   have p3:(a2.put (some 4) (.bool false)).tmps.getD 0 Go.undef=.slice (some ad) n c:=(put_atE a2 4 _ (by decide)).trans p2
   have q3:(a2.put (some 4) (.bool false)).eval (.tmp 4)=.bool false:=put_getD_same a2 4 _ (by omega)
   have z3:(a2.put (some 4) (.bool false)).tmps.size=8:=by rw[put_size]; exact z2
   have d3:(a2.put (some 4) (.bool false)).defers=[]:=d2
   generalize a2.put (some 4) (.bool false)=a3 at *
   refine wpR_cond (t:=false) q3 (wpR_skip ?_)
   show WpR Tryz.prog (.seq (.region 3 cl3 false) .ret) _ a3 w
   refine wpR_seq (wpR_region ?_)
   rw[cl3_0.2.2.2.2]
   show wpOpsIn (FW none) 0 Tryz.prog cl3 _ [0,1,2,3] a3 w
   refine wpOps_cons cl3_0.1 cl3_0.2.1 (wp_valE (x:=.slice (some ⟨w.heap.size,0,none⟩) 0 0) (w':=w.alloc (.cells #[] bdyTy)) (by simp[execOp,cl3_0.2.2.2.1,bs_run,Result.andThen]) ?_)
   rw[cl3_0.2.2.1]
   have p4:(a3.put (some 5) (.slice (some ⟨w.heap.size,0,none⟩) 0 0)).tmps.getD 0 Go.undef=.slice (some ad) n c:=(put_atE a3 5 _ (by decide)).trans p3
   have q4:(a3.put (some 5) (.slice (some ⟨w.heap.size,0,none⟩) 0 0)).tmps.getD 5 Go.undef=.slice (some ⟨w.heap.size,0,none⟩) 0 0:=put_getD_same a3 5 _ (by omega)
   have z4:(a3.put (some 5) (.slice (some ⟨w.heap.size,0,none⟩) 0 0)).tmps.size=8:=by rw[put_size]; exact z3
   have d4:(a3.put (some 5) (.slice (some ⟨w.heap.size,0,none⟩) 0 0)).defers=[]:=d3
   generalize a3.put (some 5) (.slice (some ⟨w.heap.size,0,none⟩) 0 0)=a4 at *
   have e4:a4.eval (.tmp 0)=.slice (some ad) n c:=p4
   refine wpOps_cons cl3_1.1 cl3_1.2.1 (wp_valE (x:=.slice (some ad) n c) (w':=w.alloc (.cells #[] bdyTy)) (by simp[execOp,cl3_1.2.2.2,e4]) ?_)
   rw[cl3_1.2.2.1]
   have q5:(a4.put (some 6) (.slice (some ad) n c)).eval (.tmp 5)=.slice (some ⟨w.heap.size,0,none⟩) 0 0:=(put_atE a4 6 _ (by decide)).trans q4
   have q6:(a4.put (some 6) (.slice (some ad) n c)).eval (.tmp 6)=.slice (some ad) n c:=put_getD_same a4 6 _ (by omega)
   have z5:(a4.put (some 6) (.slice (some ad) n c)).tmps.size=8:=by rw[put_size]; exact z4
   have d5:(a4.put (some 6) (.slice (some ad) n c)).defers=[]:=d4
   generalize a4.put (some 6) (.slice (some ad) n c)=a5 at *
   have hbelow:Below w.heap.size w (w.alloc (.cells #[] bdyTy)):=⟨rfl,rfl,rfl,by show w.heap.size≤(w.heap.push _).size; rw[Array.size_push]; omega,fun k hk=>heap_alloc_old w _ hk⟩
   obtain⟨v',w',r1,r2,r3,r4⟩:=append_run (P:=Tryz.prog) (T:=tab) (w:=w.alloc (.cells #[] bdyTy)) tabOk bdyQ (hcOp cl3 2).type bdyTy (by kernel_rfl) (sz:=8) (by kernel_rfl) (by decide) (.slice (some ⟨w.heap.size,0,none⟩) 0 0) 0 [] (World.ownsRow_made w #[] 0 (Nat.zero_le _) (by decide) rfl) ad n c vs hlen (fun j u hu=>by
     have h:=hcell j u hu
     have hb:(ad.add j).block=ad.block:=by unfold Addr.add; split<;>rfl
     exact (World.cell?_of_block (heap_alloc_old w _ (by rw[hb]; exact h.2))).trans h.1) h1 (.agg [.int .i64 0,.int .i64 0,.int .i64 0,.int .i64 0,.int .i64 0,.int .i64 0,.int .i64 0,.bool false]) (by kernel_rfl) ⟨by decide,by decide⟩ (by
     have:tab.bytes bdyTy=64:=by kernel_rfl
     rw[this]; decide) (by
     have:tab.bytes bdyTy=64:=by kernel_rfl
     rw[this]; simp only[room]; omega)
   rw[Nat.zero_add,List.nil_append] at r2
   have ev:#[a5.eval (.tmp 5),a5.eval (.tmp 6)]=#[.slice (some ⟨w.heap.size,0,none⟩) 0 0,.slice (some ad) n c]:=by rw[q5,q6]
   refine wpOps_cons cl3_2.1 cl3_2.2.1 (wp_valE (x:=v') (w':=w') (by
    have hrun:(Builtin.append_ #[bdyQ,bdyQ] (hcOp cl3 2).type #[a5.eval (.tmp 5),a5.eval (.tmp 6)]).run Tryz.prog (w.alloc (.cells #[] bdyTy))=.ok v' w':=by rw[ev]; exact r1
    simp[execOp,cl3_2.2.2.2,resolve,invoke,builtin,hrun]) ?_)
   rw[cl3_2.2.2.1]
   have q7:(a5.put (some 7) v').eval (.tmp 7)=v':=put_getD_same a5 7 _ (by omega)
   have z6:(a5.put (some 7) v').tmps.size=8:=by rw[put_size]; exact z5
   have d6:(a5.put (some 7) v').defers=[]:=d5
   generalize a5.put (some 7) v'=a6 at *
   refine wpOps_cons cl3_3.1 cl3_3.2.1 (wp_valE (x:=v') (w':=w') (by simp[execOp,cl3_3.2.2.2,q7]) ?_)
   rw[cl3_3.2.2.1]
   show WpR Tryz.prog .ret _ (a6.put (some 2) v') w'
   have hsz1:(w.alloc (.cells #[] bdyTy)).heap.size=w.heap.size+1:=by show (w.heap.push _).size=_; rw[Array.size_push]
   refine fun b _ _=>wpB_of (wpIn_ret (cl_ret (v':=v') (show (a6.put (some 2) v').defers=[] from d6) (put_getD_same a6 2 _ (by omega)) ⟨_,rfl,r2,⟨r3.os,r3.tape,r3.output,by have:=r3.size; omega,fun k hk=>(r3.block k (by omega) fun e=>by
    have:k=w.heap.size:=by simpa[Value.ownBlock] using e
    omega).trans (heap_alloc_old w _ hk)⟩,fun b e=>?_⟩))
   rcases r4 with h|h
   ·rw[h] at e
    have:w.heap.size=b:=by simpa[Value.ownBlock] using e
    omega
   ·rw[h] at e
    cases e
    omega
 exact main b hfn hbr
theorem clX_at (cv:Cv) (caps:List AVal):CvAt Tryz.prog (clX cv) (.fn 89 caps) where
 nat:=fun α args h k=>by
  unfold clX
  split
  ·split
   ·rw[cond_bind]; rfl
   ·rfl
  ·rfl
 ok:=fun args h x u h1 hk K g w fv cargs s hv hlen hargs=>by
  unfold clX at hk
  split at hk
  case h_2=>cases hk
  rename_i f l hcaps
  split at hk
  case isFalse=>cases hk
  cases hc:shortB (X:=BdI) l
  ·rw[hc] at hk; cases hk
  rw[hc] at hk
  cases hk
  cases hcaps
  have hl:List.length (α:=BdI) l≤100:=of_decide_eq_true hc
  cases hv with
  |fn _ _ arr ha1 ha2=>
   have ha0:arr=#[]:=Array.eq_empty_of_size_eq_zero (by rw[←ha1]; rfl)
   subst ha0
   refine .inl ⟨_,#[],rfl,fun w=>by kernel_rfl,?_⟩
   rw[Array.append_empty]
   obtain⟨cl⟩:=cargs
   match cl,hlen with
   | [z],_=>
     have hz:Rep h g w (.ro bdyS l) z:=hargs 0 _ z rfl rfl
     obtain⟨p,c,news,e1,e2,e3,e4,e5,e6⟩:=src_spec s hz (e:=bdyS) (by decide) rfl
     have hcall:=clone_walk (w:=w) (x:=z) (n:=List.length (α:=BdI) l) (vs:=news) hl e2 e6 (by
      cases p with
      |none=>
       obtain⟨h1,h2⟩:=e3 rfl
       refine .inl ⟨by rw[e1,h1,h2]; rfl,by rw[h1]; rfl,List.eq_nil_of_length_eq_zero (by rw[e2,h1]; rfl)⟩
      |some ad=>
       refine .inr ⟨ad,c,e1,fun j u hu=>⟨e4 ad rfl j u hu,?_⟩⟩
       have:=World.block_lt_of_cell? w (ad.add j) (e4 ad rfl j u hu)
       have hb:(ad.add j).block=ad.block:=by unfold Addr.add; split<;>rfl
       rwa [hb] at this)
     refine hcall.mono fun e w' he=>?_
     obtain⟨v',rfl,hown,hb,hnew⟩:=he
     have l1:Le K h g w (h++[bdyRw l]) (g.at h.length v') w':=le_grow s (bdyRw l) v' hb
     have hown1:∀n,blockOf v'=some n→v'.ownBlock=some n:=fun n hn=>by
      rcases hown.2 with ⟨h1,_⟩|⟨_,_,_,h1,_⟩<;>rw[h1] at hn ⊢<;>exact hn
     have s1:=s.grow (bdyRw l) v' l1 (fun i n hi hn=>hb.block n (s.sep i n hi hn).2.2) ((rowOk_iff (e:=bdyS) (by decide)).2 ⟨news,by rw[g.at_same]; exact hown,fun n y j cc hy hcc=>by
      obtain⟨u,h1,h2⟩:=e5 n y j cc hy hcc
      exact⟨u,h1,rep_flat0 h2 (bdyS_flat y cc (List.mem_of_getElem? hcc))⟩⟩) (fun n hn=>by
      have h1:=hnew n (hown1 n hn)
      have h2:=(hown.lt n (hown1 n hn)).2
      exact⟨⟨fun hk=>by have:=s.klow n hk; omega,fun hm=>by have:=s.low n hm; omega,h2⟩,fun i hi hin=>by have:=(s.sep i n hi hin).2.2; omega⟩)
     refine⟨_,s1,l1,v',rfl,.own _ _ (Here.of (List.getElem?_concat_length ..) (by simp)) ?_ fun wr t' e' xs' hx=>(g.at_same _ _).symm⟩
     rcases hown.2 with ⟨h1,_⟩|⟨_,_,_,h1,_⟩<;>rw[h1]<;>rfl
noncomputable def fsEn1:FuncId→Option Fsp:=fun g=>
 if g=50 then some kthS else
 fsEn0 g
theorem fsEn1_ok:FsOk fsEn1:=
 fs_cons kthS_ok <|
 fsEn0_ok
noncomputable def spEn:FuncId→Option (Cv→Cv):=fun g=>
 if g=89 then some clX else spKt g
theorem spEn_ok:SpOk spEn:=sp_cons (fun cv _ caps=>clX_at cv caps) spKt_ok
def enZ {α:Type} (C:Bool) (o:ShO) (k:AOut→Option α):Option α:=
 bif !(cshZ C o==0) then k (ktmis (cshZ C o)) else bif !(sceB (cshL C o)&&!(cshL C o).any mvg) then k (ktmis 9) else k (.ret (.ro (.recd (.cons (.int .i64) (.cons (.int .i64) (.cons (.recd (.cons (.recd (.cons (.int .i64) (.cons (.int .i64) .nil))) (.cons (.recd (.cons (.int .i64) (.cons (.int .i64) .nil))) (.cons (.int .i64) .nil)))) (.cons .bool .nil))))) (cshL C o)))
abbrev EnS:=Int × Int × Int × Int × Int × Int × Int × Int × List BrI × Int × Int × Unit
abbrev enL (l:List BdI) (t n x y u v s p q m:Int):List BdI:=l++[thB t n x y u v s p q m]
noncomputable def enK {α:Type} (cx cy sd w h:Int) (pb po:List Int) (fl ke sw be we:Int) (el:Int) (l:List BdI) (m:Int) (k:AOut→Option α) (t n x y u v s:Int) (b:List BrI) (p q:Int):Option α:=
 bif shortB l then
  bif !(sceE [thB t n x y u v s p q m]==0) then k (ktmis 4) else
  if (l.length+[thB t n x y u v s p q m].length)*64≤room then
   enZ (cshB cx cy sd w h pb po fl ke sw be we (enL l t n x y u v s p q m) b (IntKind.i64.wrap (((enL l t n x y u v s p q m).length:Int)-1)) el 6000) (shP (tkV5 cx cy sd w h pb po fl ke sw be we b (IntKind.i64.wrap (((enL l t n x y u v s p q m).length:Int)-1)) el) (Int.toNat 6000) 0 (enL l t n x y u v s p q m) []) k
  else none
 else none
noncomputable def enF {α:Type} (cx cy sd w h:Int) (pb po:List Int) (fl ke sw be we:Int) (el:Int) (l:List BdI) (m:Int) (k:AOut→Option α) (z:EnS):Option (LRes EnS α):=
 bif decide (z.1<(l.length:Int)) then
  if 0≤z.1∧z.1<(l.length:Int) then
   bif (l.getD z.1.toNat bdD).1==z.2.1 then
    bif (l.getD z.1.toNat bdD).2.1==z.2.2.1 then
     finL (bif !!decide (z.1≥0) then k (ktmis 9) else enK cx cy sd w h pb po fl ke sw be we el l m k z.2.1 z.2.2.1 z.2.2.2.1 z.2.2.2.2.1 z.2.2.2.2.2.1 z.2.2.2.2.2.2.1 z.2.2.2.2.2.2.2.1 z.2.2.2.2.2.2.2.2.1 z.2.2.2.2.2.2.2.2.2.1 z.2.2.2.2.2.2.2.2.2.2.1)
    else some (.cont (IntKind.i64.wrap (z.1+1),z.2.1,z.2.2.1,z.2.2.2.1,z.2.2.2.2.1,z.2.2.2.2.2.1,z.2.2.2.2.2.2.1,z.2.2.2.2.2.2.2.1,z.2.2.2.2.2.2.2.2.1,z.2.2.2.2.2.2.2.2.2.1,z.2.2.2.2.2.2.2.2.2.2.1,()))
   else some (.cont (IntKind.i64.wrap (z.1+1),z.2.1,z.2.2.1,z.2.2.2.1,z.2.2.2.2.1,z.2.2.2.2.2.1,z.2.2.2.2.2.2.1,z.2.2.2.2.2.2.2.1,z.2.2.2.2.2.2.2.2.1,z.2.2.2.2.2.2.2.2.2.1,z.2.2.2.2.2.2.2.2.2.2.1,()))
  else none
 else some (.brk 0 (z.1,z.2.1,z.2.2.1,z.2.2.2.1,z.2.2.2.2.1,z.2.2.2.2.2.1,z.2.2.2.2.2.2.1,z.2.2.2.2.2.2.2.1,z.2.2.2.2.2.2.2.2.1,z.2.2.2.2.2.2.2.2.2.1,z.2.2.2.2.2.2.2.2.2.2.1,()))
set_option maxRecDepth 100000 in
theorem ken_text (N n0:Nat) (α:Type) (cx cy sd w h:Int) (pb po:List Int) (fl ke sw be we:Int) (el:Int) (l:List BdI) (t n x y u v s:Int) (b:List BrI) (p q:Int) (m:Int) (k:AOut→Option α):evFn real tab ((twY fsEn1 spEn).env real tab N (n0+12)) N Tryz.f39 α [.agg [.int .i64 cx,.int .i64 cy,.int .i64 sd,.int .i64 w,.int .i64 h,.ro (.int .i64) pb,.ro (.int .i64) po,.int .i64 fl,.int .i64 ke,.int .i64 sw,.int .i64 be,.int .i64 we,.int .i64 el,.ro (.recd (.cons (.int .i64) (.cons (.int .i64) (.cons (.recd (.cons (.recd (.cons (.int .i64) (.cons (.int .i64) .nil))) (.cons (.recd (.cons (.int .i64) (.cons (.int .i64) .nil))) (.cons (.int .i64) .nil)))) (.cons .bool .nil))))) l],.agg [.int .i64 t,.int .i64 n,.int .i64 x,.int .i64 y,.int .i64 u,.int .i64 v,.int .i64 s,.ro (.recd (.cons (.int .i64) (.cons (.int .i64) (.cons (.int .i64) .nil)))) b,.int .i64 p,.int .i64 q],.int .i64 m] k =
 bif sceB l&&!l.any mvg then bif decide ((l.length:Int)<16) then afterL (iterL N (enF cx cy sd w h pb po fl ke sw be we el l m k) (0,t,n,x,y,u,v,s,b,p,q,())) fun id
 z=>if id=0 then enK cx cy sd w h pb po fl ke sw be we el l m k z.2.1 z.2.2.1 z.2.2.2.1 z.2.2.2.2.1 z.2.2.2.2.2.1 z.2.2.2.2.2.2.1 z.2.2.2.2.2.2.2.1 z.2.2.2.2.2.2.2.2.1
 z.2.2.2.2.2.2.2.2.2.1 z.2.2.2.2.2.2.2.2.2.2.1 else none else k (ktmis 9) else k (ktmis 9):=by kernel_rfl
def nmIn (t n:Int) (l:List BdI):Bool:=l.any fun c=>c.1==t&&c.2.1==n
def enB (l:List BdI) (t n:Int):Bool:=(sceB l&&!l.any mvg)&&(decide ((l.length:Int)<16)&&!nmIn t n l)
noncomputable def enC (cx cy sd w h:Int) (pb po:List Int) (fl ke sw be we:Int) (el:Int) (l:List BdI) (t n x y u v s:Int) (b:List BrI) (p q:Int) (m:Int):Bool:=cshB cx cy sd w h pb po fl ke sw be we (enL l t n x y u v s p q m) b (l.length:Int) el 6000
noncomputable def enO (cx cy sd w h:Int) (pb po:List Int) (fl ke sw be we:Int) (el:Int) (l:List BdI) (t n x y u v s:Int) (b:List BrI) (p q:Int) (m:Int):ShO:=shP (tkV5 cx cy sd w h pb po fl ke sw be we b (l.length:Int) el) 6000 0 (enL l t n x y u v s p q m) []
noncomputable def enE (cx cy sd w h:Int) (pb po:List Int) (fl ke sw be we:Int) (el:Int) (l:List BdI) (t n x y u v s:Int) (b:List BrI) (p q:Int) (m:Int):Int:=
 bif enB l t n then bif sceE [thB t n x y u v s p q m]==0 then
  bif cshZ (enC cx cy sd w h pb po fl ke sw be we el l t n x y u v s b p q m) (enO cx cy sd w h pb po fl ke sw be we el l t n x y u v s b p q m)==0 then bif sceB (cshL (enC cx cy sd w h pb po fl ke sw be we el l t n x y u v s b p q m) (enO cx cy sd w h pb po fl ke sw be we el l t n x y u v s b p q m))&&!(cshL (enC cx cy sd w h pb po fl ke sw be we el l t n x y u v s b p q m) (enO cx cy sd w h pb po fl ke sw be we el l t n x y u v s b p q m)).any mvg then 0 else 9
  else cshZ (enC cx cy sd w h pb po fl ke sw be we el l t n x y u v s b p q m) (enO cx cy sd w h pb po fl ke sw be we el l t n x y u v s b p q m)
 else 4 else 9
noncomputable def enR (cx cy sd w h:Int) (pb po:List Int) (fl ke sw be we:Int) (el:Int) (l:List BdI) (t n x y u v s:Int) (b:List BrI) (p q:Int) (m:Int):List BdI:=cshL (enC cx cy sd w h pb po fl ke sw be we el l t n x y u v s b p q m) (enO cx cy sd w h pb po fl ke sw be we el l t n x y u v s b p q m)
theorem enZ_eq {α:Type} (C:Bool) (o:ShO) (k:AOut→Option α):enZ C o k=bif (bif cshZ C o==0 then (bif sceB (cshL C o)&&!(cshL C o).any mvg then (0:Int) else 9) else cshZ C o)==0 then k (.ret (.ro (.recd (.cons (.int .i64) (.cons (.int .i64) (.cons (.recd (.cons (.recd (.cons (.int .i64) (.cons (.int .i64) .nil))) (.cons (.recd (.cons (.int .i64) (.cons (.int .i64) .nil))) (.cons (.int .i64) .nil)))) (.cons .bool .nil))))) (cshL C o))) else k (ktmis (bif cshZ C o==0 then (bif sceB (cshL C o)&&!(cshL C o).any mvg then (0:Int) else 9) else cshZ C o)):=by
 unfold enZ
 cases h:cshZ C o==0
 ·rw[Bool.not_false,cond_true,cond_false,h]; rfl
 ·cases sceB (cshL C o)&&!(cshL C o).any mvg<;>rfl
theorem enK_eq {α:Type} (cx cy sd w h:Int) (pb po:List Int) (fl ke sw be we:Int) (el:Int) (l:List BdI) (m:Int) (k:AOut→Option α) (t n x y u v s:Int) (b:List BrI) (p q:Int) (hl:l.length≤16) (hb:enB l t n=true):enK cx cy sd w h pb po fl ke sw be we el l m k t n x y u v s b p q=bif enE cx cy sd w h pb po fl ke sw be we el l t n x y u v s b p q m==0 then k (.ret (.ro (.recd (.cons (.int .i64) (.cons (.int .i64) (.cons (.recd (.cons (.recd (.cons (.int .i64) (.cons (.int .i64) .nil))) (.cons (.recd (.cons (.int .i64) (.cons (.int .i64) .nil))) (.cons (.int .i64) .nil)))) (.cons .bool .nil))))) (enR cx cy sd w h pb po fl ke sw be we el l t n x y u v s b p q m))) else k (ktmis (enE cx cy sd w h pb po fl ke sw be we el l t n x y u v s b p q m)):=by
 unfold enK enE
 rw[hb,cond_true,show shortB l=true from decide_eq_true (by omega),cond_true]
 cases hs:sceE [thB t n x y u v s p q m]==0
 ·rfl
 ·rw[Bool.not_true,cond_false,cond_true,if_pos (by simp only[List.length_singleton,room]; omega)]
  have ew:IntKind.i64.wrap (((enL l t n x y u v s p q m).length:Int)-1)=(l.length:Int):=by
   rw[List.length_append,List.length_singleton,IntKind.wrap_i64]; omega
  rw[ew]
  exact enZ_eq _ _ k
theorem ken_plain {α:Type} (cx cy sd w h:Int) (pb po:List Int) (fl ke sw be we:Int) (el:Int) (l:List BdI) (t n x y u v s:Int) (b:List BrI) (p q:Int) (m:Int) (k:AOut→Option α) :
  (bif sceB l&&!l.any mvg then bif decide ((l.length:Int)<16) then
  afterL (iterL (l.length+1) (enF cx cy sd w h pb po fl ke sw be we el l m k) (0,t,n,x,y,u,v,s,b,p,q,())) fun id z=>if id=0 then enK cx cy sd w h pb po fl ke sw be we el l m k z.2.1 z.2.2.1 z.2.2.2.1 z.2.2.2.2.1 z.2.2.2.2.2.1 z.2.2.2.2.2.2.1 z.2.2.2.2.2.2.2.1 z.2.2.2.2.2.2.2.2.1 z.2.2.2.2.2.2.2.2.2.1 z.2.2.2.2.2.2.2.2.2.2.1 else none
 else k (ktmis 9) else k (ktmis 9))=bif enE cx cy sd w h pb po fl ke sw be we el l t n x y u v s b p q m==0 then k (.ret (.ro (.recd (.cons (.int .i64) (.cons (.int .i64) (.cons (.recd (.cons (.recd (.cons (.int .i64) (.cons (.int .i64) .nil))) (.cons (.recd (.cons (.int .i64) (.cons (.int .i64) .nil))) (.cons (.int .i64) .nil)))) (.cons .bool .nil))))) (enR cx cy sd w h pb po fl ke sw be we el l t n x y u v s b p q m))) else k (ktmis (enE cx cy sd w h pb po fl ke sw be we el l t n x y u v s b p q m)):=by
 have no:enB l t n=false→(bif enE cx cy sd w h pb po fl ke sw be we el l t n x y u v s b p q m==0 then k (.ret (.ro (.recd (.cons (.int .i64) (.cons (.int .i64) (.cons (.recd (.cons (.recd (.cons (.int .i64) (.cons (.int .i64) .nil))) (.cons (.recd (.cons (.int .i64) (.cons (.int .i64) .nil))) (.cons (.int .i64) .nil)))) (.cons .bool .nil))))) (enR cx cy sd w h pb po fl ke sw be we el l t n x y u v s b p q m))) else k (ktmis (enE cx cy sd w h pb po fl ke sw be we el l t n x y u v s b p q m)))=k (ktmis 9):=fun h=>by unfold enE; rw[h]; rfl
 cases h1:sceB l&&!l.any mvg
 ·rw[no (by unfold enB; rw[h1]; rfl)]; rfl
 ·cases h2:decide ((l.length:Int)<16)
  ·rw[no (by unfold enB; rw[h1,h2]; rfl)]; rfl
  ·have hl:(l.length:Int)<16:=of_decide_eq_true h2
   have hmx:l.length≤maxLen:=by have:maxLen=9223372036854775807:=rfl; omega
   rw[cond_true,cond_true]
   refine (any_loop' (f:=enF cx cy sd w h pb po fl ke sw be we el l m k) (fun i:Nat=>((i:Int),t,n,x,y,u,v,s,b,p,q,())) l.length (fun i=>(l.getD i bdD).1==t&&(l.getD i bdD).2.1==n) (k (ktmis 9)) (fun i hi=>?_) (y:=((l.length:Int),t,n,x,y,u,v,s,b,p,q,())) (b:=0) ?_ (Nat.le_refl _)).trans ?_
   ·unfold enF
    simp only[lt_len hi,cond_true,in_len hi,if_pos,and_self,Int.toNat_natCast,wrap_next hi hmx,show ((i:Int)≥0)=True from eq_true (by omega),decide_true]
    cases (l.getD i bdD).1==t
    ·rfl
    ·cases (l.getD i bdD).2.1==n<;>rfl
   ·unfold enF
    simp only[not_lt_len,cond_false]
   ·have ha:(List.range l.length).any (fun i=>(l.getD i bdD).1==t&&(l.getD i bdD).2.1==n)=nmIn t n l:=by
     unfold nmIn
     rw[Bool.eq_iff_iff,List.any_eq_true,List.any_eq_true]
     constructor
     ·rintro⟨i,hi,h⟩
      have hi:=List.mem_range.1 hi
      rw[List.getD_eq_getElem?_getD,List.getElem?_eq_getElem hi] at h
      exact⟨l[i],List.getElem_mem hi,h⟩
     ·rintro⟨c,hc,h⟩
      obtain⟨i,hi,rfl⟩:=List.mem_iff_getElem.1 hc
      refine⟨i,List.mem_range.2 hi,?_⟩
      rw[List.getD_eq_getElem?_getD,List.getElem?_eq_getElem hi]; exact h
    rw[ha]
    cases h3:nmIn t n l
    ·rw[cond_false,if_pos rfl]
     exact enK_eq cx cy sd w h pb po fl ke sw be we el l m k t n x y u v s b p q (by omega) (by unfold enB; rw[h1,h2,h3]; rfl)
    ·rw[no (by unfold enB; rw[h1,h2,h3]; rfl)]; rfl
noncomputable def kenS:Fsp:=fun _ args k=>match args with
 | [.agg [.int .i64 cx,.int .i64 cy,.int .i64 sd,.int .i64 w,.int .i64 h,.ro (.int .i64) pb,.ro (.int .i64) po,.int .i64 fl,.int .i64 ke,.int .i64 sw,.int .i64 be,.int .i64 we,.int .i64 el,.ro (.recd (.cons (.int .i64) (.cons (.int .i64) (.cons (.recd (.cons (.recd (.cons (.int .i64) (.cons (.int .i64) .nil))) (.cons (.recd (.cons (.int .i64) (.cons (.int .i64) .nil))) (.cons (.int .i64) .nil)))) (.cons .bool .nil))))) l],.agg [.int .i64 t,.int .i64 n,.int .i64 x,.int .i64 y,.int .i64 u,.int .i64 v,.int .i64 s,.ro (.recd (.cons (.int .i64) (.cons (.int .i64) (.cons (.int .i64) .nil)))) b,.int .i64 p,.int .i64 q],.int .i64 m]=>bif enE cx cy sd w h pb po fl ke sw be we el l t n x y u v s b p q m==0 then k (.ret (.ro (.recd (.cons (.int .i64) (.cons (.int .i64) (.cons (.recd (.cons (.recd (.cons (.int .i64) (.cons (.int .i64) .nil))) (.cons (.recd (.cons (.int .i64) (.cons (.int .i64) .nil))) (.cons (.int .i64) .nil)))) (.cons .bool .nil))))) (enR cx cy sd w h pb po fl ke sw be we el l t n x y u v s b p q m))) else k (ktmis (enE cx cy sd w h pb po fl ke sw be we el l t n x y u v s b p q m))
 |_=>none
theorem kenS_ok:FspOk Tryz.prog 39 kenS:=tower_Y fsEn1_ok spEn_ok ⟨Tryz.func39,fun _ _=>by kernel_rfl⟩ (by intro α args k; unfold kenS; split<;>simp only[cond_bind,Option.bind_some,Option.bind_none]) fun args out hSm hEq=>by
 unfold kenS at hEq
 split at hEq
 ·rename_i cx cy sd w h pb po fl ke sw be we el l t n x y u v s b p q m
  exact⟨List.length (α:=BdI) l+1,12,((ken_text (List.length (α:=BdI) l+1) 0 AOut cx cy sd w h pb po fl ke sw be we el l t n x y u v s b p q m some).trans (ken_plain cx cy sd w h pb po fl ke sw be we el l t n x y u v s b p q m some)).trans hEq⟩
 ·cases hEq
/-! Stones. -/
abbrev SnI:=Int × Int × (Int × Int × Unit) × Unit
abbrev SnI.x (s:SnI):Int:=s.2.2.1.1
abbrev SnI.y (s:SnI):Int:=s.2.2.1.2.1
/-! Readings. -/
abbrev RdI:=Int × Int × Int × Unit
abbrev RdI.lo (r:RdI):Int:=r.2.1
abbrev RdI.hi (r:RdI):Int:=r.2.2.1
/-! The reference. -/
/-! The reference's bounds. -/
open Go.ChangeMaps (setBlock)
end Go.Proofs.YtpgfncncgjihpaaGreat
namespace Go.Proofs.YtpgfncncgjihpaaGreat
open Go.RowKit Go.Shelf Go.Sort
abbrev ScQ:={ p:Int × Int // -1≤p.1∧p.1≤1∧0≤p.2∧p.2≤1000 }
instance:Inhabited ScQ:=⟨⟨(0,0),by decide⟩⟩
end Go.Proofs.YtpgfncncgjihpaaGreat
namespace Go.Proofs.YtpgfncncgjihpaaGreat
open Go.RowKit
/-! Points. -/
/-! Doubts. -/
/-! Read. -/
/-! Check and Read of the reference. -/
/-! The score of distances. -/
/-! Is a score among some? -/
/-! Bounds of readings. -/
def grdB (cx cy sd w h:Int) (pb po:List Int) (fl ke sw be we:Int) (el:Int) (l:List BdI) (c:Bool):Bool:=iceB cx cy sd w h pb po&&(graB fl ke sw be we&&(sceB l&&(c&&(decide (0≤el)&&decide (el≤1000)))))
noncomputable def krtS:Fsp:=fun _ args k=>match args with
 | [.agg [.int .i64 cx,.int .i64 cy,.int .i64 sd,.int .i64 w,.int .i64 h,.ro (.int .i64) pb,.ro (.int .i64) po,.int .i64 fl,.int .i64 ke,.int .i64 sw,.int .i64 be,.int .i64 we,.int .i64 el,.ro (.recd (.cons (.int .i64) (.cons (.int .i64) (.cons (.recd (.cons (.recd (.cons (.int .i64) (.cons (.int .i64) .nil))) (.cons (.recd (.cons (.int .i64) (.cons (.int .i64) .nil))) (.cons (.int .i64) .nil)))) (.cons .bool .nil))))) l],.agg [.int .i64 t,.int .i64 n,.int .i64 x,.int .i64 y,.int .i64 u,.int .i64 v,.int .i64 s,.ro (.recd (.cons (.int .i64) (.cons (.int .i64) (.cons (.int .i64) .nil)))) b,.int .i64 p,.int .i64 q]]=>k (b1 (grdB cx cy sd w h pb po fl ke sw be we el l (ccB t n x y u v s b p q)))
 |_=>none
theorem krt_text (N n0:Nat) (α:Type) (cx cy sd w h:Int) (pb po:List Int) (fl ke sw be we:Int) (el:Int) (l:List BdI) (t n x y u v s:Int) (b:List BrI) (p q:Int) (k:AOut→Option α):evFn real tab ((twY fsEn0 spKt).env real tab N (n0+12)) N Tryz.f27 α [.agg [.int .i64 cx,.int .i64 cy,.int .i64 sd,.int .i64 w,.int .i64 h,.ro (.int .i64) pb,.ro (.int .i64) po,.int .i64 fl,.int .i64 ke,.int .i64 sw,.int .i64 be,.int .i64 we,.int .i64 el,.ro (.recd (.cons (.int .i64) (.cons (.int .i64) (.cons (.recd (.cons (.recd (.cons (.int .i64) (.cons (.int .i64) .nil))) (.cons (.recd (.cons (.int .i64) (.cons (.int .i64) .nil))) (.cons (.int .i64) .nil)))) (.cons .bool .nil))))) l],.agg [.int .i64 t,.int .i64 n,.int .i64 x,.int .i64 y,.int .i64 u,.int .i64 v,.int .i64 s,.ro (.recd (.cons (.int .i64) (.cons (.int .i64) (.cons (.int .i64) .nil)))) b,.int .i64 p,.int .i64 q]] k =
 bif er2 (iceB cx cy sd w h pb po)==0 then bif er2 (graB fl ke sw be we)==0 then bif sceE l==0 then bif er2 (ccB t n x y u v s b p q)==0 then bif decide (0≤el) then k (b1
 (decide (el≤1000))) else k (b1 false) else k (b1 false) else k (b1 false) else k (b1 false) else k (b1 false):=by kernel_rfl
theorem krtS_ok:FspOk Tryz.prog 27 krtS:=tower_Y fsEn0_ok spKt_ok ⟨Tryz.func27,fun _ _=>by kernel_rfl⟩ (by intro α args k; unfold krtS; split<;>rfl) fun args out hSm hEq=>by
 unfold krtS at hEq
 split at hEq
 ·rename_i cx cy sd w h pb po fl ke sw be we el l t n x y u v s b p q
  refine⟨1,12,(krt_text 1 0 AOut cx cy sd w h pb po fl ke sw be we el l t n x y u v s b p q some).trans (Eq.trans ?_ hEq)⟩
  unfold grdB er2 sceE
  cases iceB cx cy sd w h pb po<;>cases graB fl ke sw be we<;>cases sceB l<;>cases ccB t n x y u v s b p q<;>cases decide (0≤el)<;>cases decide (el≤1000)<;>rfl
 ·cases hEq
noncomputable def fsEn2:FuncId→Option Fsp:=fun g=>
 if g=27 then some krtS else
 if g=39 then some kenS else
 fsEn1 g
theorem fsEn2_ok:FsOk fsEn2:=
 fs_cons krtS_ok <|
 fs_cons kenS_ok <|
 fsEn1_ok
/-! End. -/
def enV (cx cy sd w h:Int) (pb po:List Int) (fl ke sw be we:Int) (el:Int) (l:List BdI) (t n x y u v s:Int) (b:List BrI) (p q:Int) (m:Int):Bool:=grdB cx cy sd w h pb po fl ke sw be we el l (ccB t n x y u v s b p q)&&(decide (0≤m)&&decide (m≤48))
noncomputable def enJ (cx cy sd w h:Int) (pb po:List Int) (fl ke sw be we:Int) (el:Int) (l:List BdI) (t n x y u v s:Int) (b:List BrI) (p q:Int) (m:Int):Int:=bif enV cx cy sd w h pb po fl ke sw be we el l t n x y u v s b p q m then enE cx cy sd w h pb po fl ke sw be we el l t n x y u v s b p q m else 2
noncomputable def enW (cx cy sd w h:Int) (pb po:List Int) (fl ke sw be we:Int) (el:Int) (l:List BdI) (t n x y u v s:Int) (b:List BrI) (p q:Int) (m:Int):List BdI:=bif enJ cx cy sd w h pb po fl ke sw be we el l t n x y u v s b p q m==0 then enR cx cy sd w h pb po fl ke sw be we el l t n x y u v s b p q m else []
theorem kend_text (N n0:Nat) (α:Type) (cx cy sd w h:Int) (pb po:List Int) (fl ke sw be we:Int) (el:Int) (l:List BdI) (t n x y u v s:Int) (b:List BrI) (p q:Int) (m:Int) (k:AOut→Option α):evFn real tab ((twY fsEn2 spEn).env real tab N (n0+14)) N Tryz.f10 α [.agg [.int .i64 cx,.int .i64 cy,.int .i64 sd,.int .i64 w,.int .i64 h,.ro (.int .i64) pb,.ro (.int .i64) po],.agg [.int .i64 fl,.int .i64 ke,.int .i64 sw,.int .i64 be,.int .i64 we],.ro (.recd (.cons (.int .i64) (.cons (.int .i64) (.cons (.recd (.cons (.recd (.cons (.int .i64) (.cons (.int .i64) .nil))) (.cons (.recd (.cons (.int .i64) (.cons (.int .i64) .nil))) (.cons (.int .i64) .nil)))) (.cons .bool .nil))))) l,.agg [.int .i64 t,.int .i64 n,.int .i64 x,.int .i64 y,.int .i64 u,.int .i64 v,.int .i64 s,.ro (.recd (.cons (.int .i64) (.cons (.int .i64) (.cons (.int .i64) .nil)))) b,.int .i64 p,.int .i64 q],.int .i64 el,.int .i64 m] k =
 bif !grdB cx cy sd w h pb po fl ke sw be we el l (ccB t n x y u v s b p q) then k (.ret (.tup [.nils,.int .i64 2])) else bif decide (0≤m) then bif !decide (m≤48) then k (.ret
 (.tup [.nils,.int .i64 2])) else bif enE cx cy sd w h pb po fl ke sw be we el l t n x y u v s b p q m==0 then k (.ret (.tup [.ro (.recd (.cons (.int .i64) (.cons (.int .i64)
 (.cons (.recd (.cons (.recd (.cons (.int .i64) (.cons (.int .i64) .nil))) (.cons (.recd (.cons (.int .i64) (.cons (.int .i64) .nil))) (.cons (.int .i64) .nil)))) (.cons .bool
 .nil))))) (enR cx cy sd w h pb po fl ke sw be we el l t n x y u v s b p q m),.int .i64 0])) else k (.ret (.tup [.ro (.recd (.cons (.int .i64) (.cons (.int .i64) (.cons (.recd
 (.cons (.recd (.cons (.int .i64) (.cons (.int .i64) .nil))) (.cons (.recd (.cons (.int .i64) (.cons (.int .i64) .nil))) (.cons (.int .i64) .nil)))) (.cons .bool .nil))))) ([]:List
 BdI),.int .i64 (enE cx cy sd w h pb po fl ke sw be we el l t n x y u v s b p q m)])) else k (.ret (.tup [.nils,.int .i64 2])):=by kernel_rfl
noncomputable def kendS0:Fsp:=fun _ args k=>match args with
 | [.agg [.int .i64 cx,.int .i64 cy,.int .i64 sd,.int .i64 w,.int .i64 h,.ro (.int .i64) pb,.ro (.int .i64) po],.agg [.int .i64 fl,.int .i64 ke,.int .i64 sw,.int .i64 be,.int .i64 we],.ro (.recd (.cons (.int .i64) (.cons (.int .i64) (.cons (.recd (.cons (.recd (.cons (.int .i64) (.cons (.int .i64) .nil))) (.cons (.recd (.cons (.int .i64) (.cons (.int .i64) .nil))) (.cons (.int .i64) .nil)))) (.cons .bool .nil))))) l,.agg [.int .i64 t,.int .i64 n,.int .i64 x,.int .i64 y,.int .i64 u,.int .i64 v,.int .i64 s,.ro (.recd (.cons (.int .i64) (.cons (.int .i64) (.cons (.int .i64) .nil)))) b,.int .i64 p,.int .i64 q],.int .i64 el,.int .i64 m]=>bif enV cx cy sd w h pb po fl ke sw be we el l t n x y u v s b p q m then k (.ret (.tup [.ro (.recd (.cons (.int .i64) (.cons (.int .i64) (.cons (.recd (.cons (.recd (.cons (.int .i64) (.cons (.int .i64) .nil))) (.cons (.recd (.cons (.int .i64) (.cons (.int .i64) .nil))) (.cons (.int .i64) .nil)))) (.cons .bool .nil))))) (enW cx cy sd w h pb po fl ke sw be we el l t n x y u v s b p q m),.int .i64 (enE cx cy sd w h pb po fl ke sw be we el l t n x y u v s b p q m)])) else k (.ret (.tup [.nils,.int .i64 2]))
 |_=>none
theorem kendS0_ok:FspOk Tryz.prog 10 kendS0:=tower_Y fsEn2_ok spEn_ok ⟨Tryz.func10,fun _ _=>by kernel_rfl⟩ (by intro α args k; unfold kendS0; split<;>simp only[cond_bind,Option.bind_some,Option.bind_none]) fun args out hSm hEq=>by
 unfold kendS0 at hEq
 split at hEq
 ·rename_i cx cy sd w h pb po fl ke sw be we l t n x y u v s b p q el m
  refine⟨1,14,(kend_text 1 0 AOut cx cy sd w h pb po fl ke sw be we el l t n x y u v s b p q m some).trans (Eq.trans ?_ hEq)⟩
  unfold enW enJ enV
  cases grdB cx cy sd w h pb po fl ke sw be we el l (ccB t n x y u v s b p q)
  ·rfl
  ·cases decide (0≤m)
   ·rfl
   ·cases decide (m≤48)
    ·rfl
    ·cases h0:enE cx cy sd w h pb po fl ke sw be we el l t n x y u v s b p q m==0
     ·simp only[Bool.not_true,cond_false,cond_true,Bool.and_self,h0]
     ·simp only[Bool.not_true,cond_false,cond_true,Bool.and_self,h0]
      rw[show enE cx cy sd w h pb po fl ke sw be we el l t n x y u v s b p q m=0 from eq_of_beq h0]
 ·cases hEq
noncomputable def kendS:Fsp:=fun _ args k=>match args with
 | [.agg [.int .i64 cx,.int .i64 cy,.int .i64 sd,.int .i64 w,.int .i64 h,.ro (.int .i64) pb,.ro (.int .i64) po],.agg [.int .i64 fl,.int .i64 ke,.int .i64 sw,.int .i64 be,.int .i64 we],.ro (.recd (.cons (.int .i64) (.cons (.int .i64) (.cons (.recd (.cons (.recd (.cons (.int .i64) (.cons (.int .i64) .nil))) (.cons (.recd (.cons (.int .i64) (.cons (.int .i64) .nil))) (.cons (.int .i64) .nil)))) (.cons .bool .nil))))) l,.agg [.int .i64 t,.int .i64 n,.int .i64 x,.int .i64 y,.int .i64 u,.int .i64 v,.int .i64 s,.ro (.recd (.cons (.int .i64) (.cons (.int .i64) (.cons (.int .i64) .nil)))) b,.int .i64 p,.int .i64 q],.int .i64 el,.int .i64 m]=>k (.ret (.tup [.ro (.recd (.cons (.int .i64) (.cons (.int .i64) (.cons (.recd (.cons (.recd (.cons (.int .i64) (.cons (.int .i64) .nil))) (.cons (.recd (.cons (.int .i64) (.cons (.int .i64) .nil))) (.cons (.int .i64) .nil)))) (.cons .bool .nil))))) (enW cx cy sd w h pb po fl ke sw be we el l t n x y u v s b p q m),.int .i64 (enJ cx cy sd w h pb po fl ke sw be we el l t n x y u v s b p q m)]))
 |_=>none
theorem kendS_ok:FspOk Tryz.prog 10 kendS:=fsp_sim kendS0_ok (by intro α args k; unfold kendS; split<;>rfl) fun args out hq=>by
 unfold kendS at hq
 split at hq
 ·rename_i cx cy sd w h pb po fl ke sw be we l t n x y u v s b p q el m
  cases hq
  cases h0:enV cx cy sd w h pb po fl ke sw be we el l t n x y u v s b p q m
  ·refine⟨.tup [.nils,.int .i64 2],_,rfl,?_,?_⟩
   ·unfold kendS0; simp only[h0,cond_false]
   ·have e1:enJ cx cy sd w h pb po fl ke sw be we el l t n x y u v s b p q m=2:=by unfold enJ; rw[h0]; rfl
    have e2:enW cx cy sd w h pb po fl ke sw be we el l t n x y u v s b p q m=[]:=by unfold enW; rw[e1]; rfl
    rw[e1,e2]
    exact simV_tup ⟨simV_nils _,SimV.refl _,trivial⟩
  ·refine⟨_,_,rfl,?_,SimV.refl _⟩
   have e1:enJ cx cy sd w h pb po fl ke sw be we el l t n x y u v s b p q m=enE cx cy sd w h pb po fl ke sw be we el l t n x y u v s b p q m:=by unfold enJ; rw[h0]; rfl
   unfold kendS0; simp only[h0,cond_true,e1]
 ·cases hq
/-! Points. -/
/-! Stones of a scene. -/
noncomputable def fsEn3:FuncId→Option Fsp:=fun g=>
 if g=10 then some kendS else
 fsEn2 g
theorem fsEn3_ok:FsOk fsEn3:=
 fs_cons kendS_ok <|
 fsEn2_ok
/-! Throw. -/
def kthE (t n x y u v s:Int) (b:List BrI) (p q m:Int):Int:=bif ccB t n x y u v s b p q&&(decide (0≤m)&&decide (m≤48)) then (bif sceE [thB t n x y u v s p q m]==0 then 0 else 4) else 2
theorem kthr_text (N n0:Nat) (α:Type) (t n x y u v s:Int) (b:List BrI) (p q:Int) (m:Int) (k:AOut→Option α):evFn real tab ((twY fsEn3 spEn).env real tab N (n0+14)) N Tryz.f17 α [.agg [.int .i64 t,.int .i64 n,.int .i64 x,.int .i64 y,.int .i64 u,.int .i64 v,.int .i64 s,.ro (.recd (.cons (.int .i64) (.cons (.int .i64) (.cons (.int .i64) .nil)))) b,.int .i64 p,.int .i64 q],.int .i64 m] k =
 bif er2 (ccB t n x y u v s b p q) != 0 then k (.ret (.tup [.agg [.int .i64 0,.int .i64 0,.int .i64 0,.int .i64 0,.int .i64 0,.int .i64 0,.int .i64 0,.bool false],.int .i64
 2])) else bif decide (0≤m) then bif !decide (m≤48) then k (.ret (.tup [.agg [.int .i64 0,.int .i64 0,.int .i64 0,.int .i64 0,.int .i64 0,.int .i64 0,.int .i64 0,.bool
 false],.int .i64 2])) else bif !(sceE [thB t n x y u v s p q m]==0) then k (.ret (.tup [.agg [.int .i64 0,.int .i64 0,.int .i64 0,.int .i64 0,.int .i64 0,.int .i64 0,.int
 .i64 0,.bool false],.int .i64 4])) else k (.ret (.tup [.agg [.int .i64 t,.int .i64 n,.int .i64 x,.int .i64 y,.int .i64 (thU u p m),.int .i64 (thV v q m),.int .i64 s,.bool
 false],.int .i64 0])) else k (.ret (.tup [.agg [.int .i64 0,.int .i64 0,.int .i64 0,.int .i64 0,.int .i64 0,.int .i64 0,.int .i64 0,.bool false],.int .i64 2])):=by
 kernel_rfl
noncomputable def kthrS:Fsp:=fun _ args k=>match args with
 | [.agg [.int .i64 t,.int .i64 n,.int .i64 x,.int .i64 y,.int .i64 u,.int .i64 v,.int .i64 s,.ro (.recd (.cons (.int .i64) (.cons (.int .i64) (.cons (.int .i64) .nil)))) b,.int .i64 p,.int .i64 q],.int .i64 m]=>k (.ret (.tup [.agg [.int .i64 (selI (kthE t n x y u v s b p q m==0) t),.int .i64 (selI (kthE t n x y u v s b p q m==0) n),.int .i64 (selI (kthE t n x y u v s b p q m==0) x),.int .i64 (selI (kthE t n x y u v s b p q m==0) y),.int .i64 (selI (kthE t n x y u v s b p q m==0) (thU u p m)),.int .i64 (selI (kthE t n x y u v s b p q m==0) (thV v q m)),.int .i64 (selI (kthE t n x y u v s b p q m==0) s),.bool false],.int .i64 (kthE t n x y u v s b p q m)]))
 |_=>none
theorem kthrS_ok:FspOk Tryz.prog 17 kthrS:=tower_Y fsEn3_ok spEn_ok ⟨Tryz.func17,fun _ _=>by kernel_rfl⟩ (by intro α args k; unfold kthrS; split<;>rfl) fun args out hSm hEq=>by
 unfold kthrS at hEq
 split at hEq
 ·rename_i t n x y u v s b p q m
  refine⟨1,14,(kthr_text 1 0 AOut t n x y u v s b p q m some).trans (Eq.trans ?_ hEq)⟩
  unfold kthE er2
  cases ccB t n x y u v s b p q
  ·rfl
  ·cases decide (0≤m)
   ·rfl
   ·cases decide (m≤48)
    ·rfl
    ·cases sceE [thB t n x y u v s p q m]==0<;>rfl
 ·cases hEq
def nilC:List AVal→List AVal
 |.agg [a1,a2,a3,a4,a5,a6,a7,.nils,a9,a10]::r=>.agg [a1,a2,a3,a4,a5,a6,a7,.ro (.recd (.cons (.int .i64) (.cons (.int .i64) (.cons (.int .i64) .nil)))) [],a9,a10]::r
 |l=>l
theorem simVs_refl:∀l:List AVal,SimVs l l
 | []=>trivial
 |c::r=>⟨SimV.refl c,simVs_refl r⟩
theorem nilC_sim (l:List AVal):SimVs l (nilC l):=by
 unfold nilC
 split
 ·exact⟨simV_agg ⟨SimV.refl _,SimV.refl _,SimV.refl _,SimV.refl _,SimV.refl _,SimV.refl _,SimV.refl _,simV_nils _,SimV.refl _,SimV.refl _,trivial⟩,simVs_refl _⟩
 ·exact simVs_refl _
noncomputable def kthrN:Fsp:=fun α args k=>kthrS α (nilC args) k
theorem kthrN_ok:FspOk Tryz.prog 17 kthrN:=fsp_arg kthrS_ok (fun α args k=>kthrS_ok.nat α (nilC args) k) fun args _ hs=>⟨nilC args,hs,nilC_sim args⟩
noncomputable def fsAv:FuncId→Option Fsp:=fun g=>
 if g=17 then some kthrN else
 fsF g
theorem fsAv_ok:FsOk fsAv:=
 fs_cons kthrN_ok <|
 fsF_ok
set_option maxRecDepth 100000 in
theorem kav_text (α:Type) (k:AOut→Option α):evFn real tab ((twY fsAv spC).env real tab 20 30) 20 Tryz.f21 α [] k=k (b1 true):=by kernel_rfl
noncomputable def kavS:Fsp:=fun _ args k=>match args with
 | []=>k (b1 true)
 |_=>none
theorem kavS_ok:FspOk Tryz.prog 21 kavS:=tower_Y fsAv_ok spC_ok ⟨Tryz.func21,fun _ _=>by kernel_rfl⟩ (by intro α args k; unfold kavS; split<;>rfl) fun args out hSm hEq=>by
 unfold kavS at hEq
 split at hEq
 ·exact⟨20,30,(kav_text AOut some).trans hEq⟩
 ·cases hEq
def nilE:List AVal→List AVal
 | [a,b,c,.agg [a1,a2,a3,a4,a5,a6,a7,.nils,a9,a10],e,m]=>[a,b,c,.agg [a1,a2,a3,a4,a5,a6,a7,.ro (.recd (.cons (.int .i64) (.cons (.int .i64) (.cons (.int .i64) .nil)))) [],a9,a10],e,m]
 |l=>l
theorem nilE_sim (l:List AVal):SimVs l (nilE l):=by
 unfold nilE
 split
 ·exact⟨SimV.refl _,SimV.refl _,SimV.refl _,simV_agg ⟨SimV.refl _,SimV.refl _,SimV.refl _,SimV.refl _,SimV.refl _,SimV.refl _,SimV.refl _,simV_nils _,SimV.refl _,SimV.refl _,trivial⟩,SimV.refl _,SimV.refl _,trivial⟩
 ·exact simVs_refl _
noncomputable def kendN:Fsp:=fun α args k=>kendS α (nilE args) k
theorem kendN_ok:FspOk Tryz.prog 10 kendN:=fsp_arg kendS_ok (fun α args k=>kendS_ok.nat α (nilE args) k) fun args _ hs=>⟨nilE args,hs,nilE_sim args⟩
noncomputable def fsSn:FuncId→Option Fsp:=fun g=>
 if g=21 then some kavS else
 if g=17 then some kthrN else
 if g=10 then some kendN else
 if g=55 then some cloneS else
 fsF g
theorem fsSn_ok:FsOk fsSn:=
 fs_cons kavS_ok <|
 fs_cons kthrN_ok <|
 fs_cons kendN_ok <|
 fs_cons cloneS_ok <|
 fsF_ok
noncomputable def evS (fn:Func):Fsp:=fun _ args k=>(evFn real tab ((twW fsSn spC).env real tab 60 30) 60 fn AOut args some).bind k
theorem evS_ok {f:FuncId} {fn:Func} (hf:FnOk Tryz.prog f fn):FspOk Tryz.prog f (evS fn):=tower_W fsSn_ok spC_ok hf (fun α args k=>by unfold evS; rw[Option.bind_assoc]; rfl) fun args out _ h=>⟨60,30,by
 unfold evS at h
 revert h
 generalize evFn real tab ((twW fsSn spC).env real tab 60 30) 60 fn AOut args some=o
 cases o<;>exact fun h=>h⟩
noncomputable def fsSm:FuncId→Option Fsp:=fun g=>
 if g=14 then some (evS Tryz.f14) else
 if g=13 then some (evS Tryz.f13) else
 if g=15 then some (evS Tryz.f15) else
 if g=16 then some (evS Tryz.f16) else
 if g=19 then some (evS Tryz.f19) else
 if g=20 then some (evS Tryz.f20) else
 if g=22 then some (evS Tryz.f22) else
 fsSn g
theorem fsSm_ok:FsOk fsSm:=
 fs_cons (evS_ok ⟨Tryz.func14,fun _ _=>by kernel_rfl⟩) <|
 fs_cons (evS_ok ⟨Tryz.func13,fun _ _=>by kernel_rfl⟩) <|
 fs_cons (evS_ok ⟨Tryz.func15,fun _ _=>by kernel_rfl⟩) <|
 fs_cons (evS_ok ⟨Tryz.func16,fun _ _=>by kernel_rfl⟩) <|
 fs_cons (evS_ok ⟨Tryz.func19,fun _ _=>by kernel_rfl⟩) <|
 fs_cons (evS_ok ⟨Tryz.func20,fun _ _=>by kernel_rfl⟩) <|
 fs_cons (evS_ok ⟨Tryz.func22,fun _ _=>by kernel_rfl⟩) <|
 fsSn_ok
set_option maxRecDepth 100000 in
theorem ksn_text:evFn real tab ((twW fsSm spC).env real tab 60 30) 60 Tryz.f4 AOut [] some=some (b1 true):=by kernel_rfl
noncomputable def ksnF:List AVal→Option AOut
 | []=>some (b1 true)
 |_=>none
theorem ksn_ok:FspOk Tryz.prog 4 (toFsp ksnF):=tower_W fsSm_ok spC_ok ⟨Tryz.func4,fun _ _=>by kernel_rfl⟩ (toFsp_nat _) fun args out hSm hq=>by
 replace hq:=toFsp_some hq
 unfold ksnF at hq
 split at hq
 ·cases hq
  exact⟨60,30,ksn_text⟩
 ·cases hq
end Go.Proofs.YtpgfncncgjihpaaGreat
