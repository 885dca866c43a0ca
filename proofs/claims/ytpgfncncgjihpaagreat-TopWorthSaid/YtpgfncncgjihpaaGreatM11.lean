/- Parts of the proof, in build order. -/
import Derived.Test.YtpgfncncgjihpaaGreatM5
import Derived.ProofKit
import Derived.Test.YtpgfncncgjihpaaGreatChecked
import Derived.Test.YtpgfncncgjihpaaGreatM6
import Derived.Test.YtpgfncncgjihpaaGreatM10
import Derived.Test.YtpgfncncgjihpaaGreatM8
namespace Go.Proofs.YtpgfncncgjihpaaGreat
open Go.RowKit
mutual
def jp (P:Program):Sh→TypeId→Bool
 |.int k,t=>
  match P.underlying t with
  |some (.int j)=>decide (j=k)
  |_=>false
 |.bool,t=>
  match P.underlying t with
  |some .bool=>true
  |_=>false
 |.str,t=>
  match P.underlying t with
  |some .string=>true
  |_=>false
 |.recd fs,t=>
  match P.underlying t with
  |some (.struct l)=>decide (P.cellsOf t=fs.size)&&xQ P fs l.toList 0
  |some (.array n u)=>decide (P.cellsOf t=fs.size)&&xR P fs u n
  |_=>false
 |.sl e,t=>
  match P.underlying t with
  |some (.slice u)=>decide (P.cellsOf u=e.size)&&decide (0<e.size)&&jp P e u
  |_=>false
 |.mp _ _,_=>false
def xQ (P:Program):Shs→List Field→Nat→Bool
 |.nil,[],_=>true
 |.cons s r,f::q,n=>decide (f.offset=n)&&decide (P.cellsOf f.type=s.size)&&jp P s f.type&&xQ P r q (n+s.size)
 |_,_,_=>false
def xR (P:Program):Shs→TypeId→Nat→Bool
 |.nil,_,0=>true
 |.cons s r,u,n+1=>decide (P.cellsOf u=s.size)&&jp P s u&&xR P r u n
 |_,_,_=>false
end
mutual
def Wf:(s:Sh)→s.ty→Prop
 |.int k,n=>(Lit.int k n).wf=true
 |.bool,_=>True
 |.str,s=>s.size≤maxLen
 |.recd fs,x=>Wfs fs x
 |.sl e,xs=>List.length (α:=e.ty) xs≤maxLen∧∀x,List.Mem (α:=e.ty) x xs→Wf e x
 |.mp _ _,_=>False
def Wfs:(fs:Shs)→fs.ty→Prop
 |.nil,_=>True
 |.cons s r,x=>Wf s x.1∧Wfs r x.2
end
theorem lQ {w:World} {base n:Nat} {a:Addr} {cs:List Value} (h:w.cells? base a n=some cs):cs.length=n∧∀i,i<n→w.cell? (a.add i)=cs[i]?:=by
 unfold World.cells? at h
 split at h
 ·exact⟨by simpa using mapM_some_length h,fun i hi=>mapM_some_get h i i (by simp[hi])⟩
 ·cases h
def gA (w:World):Gh:=⟨fun _=>Go.undef,fun b=>b<w.heap.size⟩
section
variable {P:Program} {H:Type} {enc:TypeId × Value→H} {w:World} {base:Nat} {spare:Nat→Bool} {held:Bool}
def Dx (w:World) (s:Sh) (y:s.ty) (cs:List Value):Prop:=Wf s y∧cs.length=s.size∧∀(j:Nat) c v,(s.cells y)[j]?=some c→cs[j]?=some v→Rep [] (gA w) w c v
theorem I2 {e:Sh} {a:Addr} {len cap:Nat} (hl:len≤cap) (hm:cap≤maxLen) (h0:0<e.size)
  (each:∀i,i<len→∃cs,w.cells? base (a.add (i*e.size)) e.size=some cs∧∃y:e.ty,Dx w e y cs):∃y:(Sh.sl e).ty,Dx w (.sl e) y [.slice (some a) len cap]:=by
 rcases Nat.eq_zero_or_pos len with hz|hp
 ·subst hz
  refine⟨([]:List e.ty),⟨Nat.zero_le _,fun x hx=>by cases hx⟩,rfl,fun j c v hc hv=>?_⟩
  match j with
  |0=>cases hc; cases hv; exact .ro0 e _ _ hm fun h=>by cases h
  |j+1=>cases hv
 ·obtain⟨b,o,spot⟩:=a
  have hb:b<w.heap.size:=by
   obtain⟨cs,h1,_⟩:=each 0 hp
   have:=World.cells?_block h1 h0
   unfold Addr.add at this
   split at this<;>exact this
  have hspot:spot=none:=by
   obtain⟨cs,h1,y,_,h2,_⟩:=each 0 hp
   obtain⟨hl,hc⟩:=lQ h1
   have h3:=hc 0 h0
   rw[List.getElem?_eq_getElem (by omega)] at h3
   simpa[Addr.add] using World.cell?_spot h3
  subst hspot
  have hadd:∀o i,(Addr.mk b o none).add i=⟨b,o+i,none⟩:=fun o i=>Addr.add_lit ..
  let f:Nat→e.ty:=fun i=>if h:i<len then Classical.choose (Classical.choose_spec (each i h)).2 else e.dflt
  have hf:∀i,i<len→∃cs,w.cells? base (Addr.add ⟨b,o,none⟩ (i*e.size)) e.size=some cs∧Dx w e (f i) cs:=fun i hi=>by
   refine⟨Classical.choose (each i hi),(Classical.choose_spec (each i hi)).1,?_⟩
   simp only[f,dif_pos hi]
   exact Classical.choose_spec (Classical.choose_spec (each i hi)).2
  have hget:∀(n:Nat) (x:e.ty),((List.range len).map f)[n]?=some x→n<len∧x=f n:=fun n x hn=>by
   rw[List.getElem?_map] at hn
   rcases Nat.lt_or_ge n len with hlt|hge
   ·rw[List.getElem?_range hlt] at hn; cases hn; exact⟨hlt,rfl⟩
   ·rw[List.getElem?_eq_none (by simpa using hge)] at hn; cases hn
  have hcell:∀(n:Nat) (x:e.ty) (j:Nat) c,((List.range len).map f)[n]?=some x→(e.cells x)[j]?=some c→∃u,w.cell? ⟨b,o+n*e.size+j,none⟩=some u∧Rep [] (gA w) w c u:=fun n x j c hn hc=>by
   obtain⟨hlt,rfl⟩:=hget n x hn
   obtain⟨cs,h1,_,h2,h3⟩:=hf n hlt
   obtain⟨_,h4⟩:=lQ h1
   have hj:j<e.size:=by rw[←Sh.cells_size e (f n)]; exact (List.getElem?_eq_some_iff.1 hc).1
   have h5:=h4 j hj
   rw[hadd,hadd] at h5
   have hcs:cs[j]?=some cs[j]:=List.getElem?_eq_getElem (by omega)
   rw[hcs] at h5
   refine⟨_,?_,h3 j c _ hc hcs⟩
   exact h5
  have hlen:((List.range len).map f).length=len:=by simp
  refine⟨(List.range len).map f,⟨by show ((List.range len).map f).length≤_; omega,fun x hx=>?_⟩,rfl,fun j c v hc hv=>?_⟩
  ·obtain⟨n,hn⟩:=List.mem_iff_getElem?.1 (show x∈(List.range len).map f from hx)
   obtain⟨hlt,rfl⟩:=hget n x hn
   obtain⟨cs,_,h2,_⟩:=hf n hlt
   exact h2
  ·match j with
   |0=>
    cases hc; cases hv
    have:=Rep.ro1 (h:=[]) (g:=gA w) (w:=w) e ((List.range len).map f) b o cap (fun n j=>(w.cell? ⟨b,o+n*e.size+j,none⟩).getD Go.undef) (by omega) (by omega) hm hb
     (fun n x j c hn hc=>by obtain⟨u,h1,_⟩:=hcell n x j c hn hc; rw[h1]; rfl)
     (fun n x j c hn hc=>by obtain⟨u,h1,h2⟩:=hcell n x j c hn hc; rw[h1]; exact h2)
    rw[hlen] at this
    exact this
   |j+1=>cases hv
theorem I3 {fuel n:Nat} {t u:TypeId} {cs:List Value} {x:DataW H × List MemPlace} (hu:P.underlying t=some (.array n u)) (h:DataW.trod enc P w base spare held fuel t cs=some x) :
  cs.length=P.cellsOf t∧∃m,∀i,i<n→∃y,DataW.trod enc P w base spare held m u ((cs.drop (i*P.cellsOf u)).take (P.cellsOf u))=some y:=by
 cases fuel with
 |zero=>simp[DataW.trod] at h
 |succ m=>
  unfold DataW.trod at h
  rw[hu] at h
  split at h<;>simp_all
  obtain⟨_,xs,hp,_⟩:=h
  refine⟨m,fun i hi=>?_⟩
  have hg:=mapM_some_get hp i i (by simp[hi])
  have hl:=mapM_some_length hp
  simp only[List.length_range] at hl
  rw[List.getElem?_eq_getElem (by omega)] at hg
  generalize xs[i]=p at hg
  exact⟨p.1,p.2,hg⟩
mutual
theorem o7:(s:Sh)→∀(t:TypeId) (fuel:Nat) (cs:List Value) (x:DataW H × List MemPlace),jp P s t=true→DataW.trod enc P w base spare held fuel t cs=some x→∃y:s.ty,Dx w s y cs
 |.int k,t,fuel,cs,x,hf,h=>by
  simp only[jp] at hf
  split at hf
  ·rename_i j hu
   have:=of_decide_eq_true hf
   subst this
   obtain⟨n,rfl,_,hw⟩:=DataW.trod_int hu h
   refine⟨(n:Int),hw,rfl,fun i c v hc hv=>?_⟩
   match i with
   |0=>cases hc; cases hv; exact .int _ _
   |i+1=>cases hv
  ·cases hf
 |.bool,t,fuel,cs,x,hf,h=>by
  simp only[jp] at hf
  split at hf
  ·rename_i hu
   obtain⟨b,rfl,_⟩:=DataW.trod_bool hu h
   refine⟨b,trivial,rfl,fun i c v hc hv=>?_⟩
   match i with
   |0=>cases hc; cases hv; exact .bool _
   |i+1=>cases hv
  ·cases hf
 |.str,t,fuel,cs,x,hf,h=>by
  simp only[jp] at hf
  split at hf
  ·rename_i hu
   obtain⟨b,rfl,_,hl⟩:=DataW.trod_string hu h
   refine⟨b,hl,rfl,fun i c v hc hv=>?_⟩
   match i with
   |0=>cases hc; cases hv; exact .str _
   |i+1=>cases hv
  ·cases hf
 |.recd fs,t,fuel,cs,x,hf,h=>by
  simp only[jp] at hf
  split at hf
  ·rename_i l hu
   simp only[Bool.and_eq_true,decide_eq_true_eq] at hf
   obtain⟨xs,n,_,_,hl,hx,hfl⟩:=DataW.trod_struct hu h
   obtain⟨y,hy,hr⟩:=xS fs l.toList 0 n cs hf.2 (fun f hm=>by
    obtain⟨i,hi⟩:=List.mem_iff_getElem?.1 hm
    have hi':l[i]?=some f:=by simpa using hi
    have hlt:i<xs.length:=by rw[hx]; exact (Array.getElem?_eq_some_iff.1 hi').1
    exact⟨xs[i],by rw[hfl i f hi',List.getElem?_eq_getElem hlt]⟩) (by rw[hl,hf.1]; omega)
   refine⟨y,hy,by rw[hl,hf.1]; rfl,fun j c v hc hv=>hr j c v hc (by rw[Nat.zero_add]; exact hv)⟩
  ·rename_i n u hu
   simp only[Bool.and_eq_true,decide_eq_true_eq] at hf
   obtain⟨hl,m,hx⟩:=I3 hu h
   obtain⟨y,hy,hr⟩:=xT fs u n 0 m cs hf.2 (fun i hi=>by rw[Nat.zero_add]; exact hx i hi) (by rw[hl,hf.1]; omega)
   refine⟨y,hy,by rw[hl,hf.1]; rfl,fun j c v hc hv=>hr j c v hc (by rw[Nat.zero_mul,Nat.zero_add]; exact hv)⟩
  ·cases hf
 |.sl e,t,fuel,cs,x,hf,h=>by
  simp only[jp] at hf
  split at hf
  ·rename_i u hu
   simp only[Bool.and_eq_true,decide_eq_true_eq] at hf
   obtain⟨⟨h1,h2⟩,h3⟩:=hf
   rcases DataW.trod_slice hu h with ⟨rfl,-⟩|⟨a,len,cap,elems,rest,n,_,rfl,_,hb,hl,hm,hlen,hel,_,_⟩
   ·refine⟨([]:List e.ty),⟨Nat.zero_le _,fun x hx=>by cases hx⟩,rfl,fun j c v hc hv=>?_⟩
    match j with
    |0=>cases hc; cases hv; exact .ro0 e _ _ (Nat.zero_le _) fun _=>rfl
    |j+1=>cases hv
   ·rw[h1] at hel
    refine I2 (base:=base) hl hm h2 fun i hi=>?_
    have he:=hel i hi
    rw[List.getElem?_eq_getElem (by omega)] at he
    obtain⟨cs,e1,e2⟩:=Option.bind_eq_some_iff.1 he
    exact⟨cs,e1,o7 e u n cs _ h3 e2⟩
  ·cases hf
 |.mp _ _,t,fuel,cs,x,hf,h=>by simp[jp] at hf
theorem xS:(fs:Shs)→∀(l:List Field) (n0 fuel:Nat) (cs:List Value),xQ P fs l n0=true →
  (∀f∈l,∃x:DataW H × List MemPlace,DataW.trod enc P w base spare held fuel f.type ((cs.drop f.offset).take (P.cellsOf f.type))=some x)→n0+fs.size≤cs.length →
  ∃y:fs.ty,Wfs fs y∧∀(j:Nat) c v,(fs.cells y)[j]?=some c→cs[n0+j]?=some v→Rep [] (gA w) w c v
 |.nil,l,n0,fuel,cs,hf,h,hl=>⟨(),trivial,fun j c v hc=>by simp[Shs.cells] at hc⟩
 |.cons s r,[],n0,fuel,cs,hf,h,hl=>by simp[xQ] at hf
 |.cons s r,f::q,n0,fuel,cs,hf,h,hl=>by
  simp only[xQ,Bool.and_eq_true,decide_eq_true_eq] at hf
  obtain⟨⟨⟨h1,h2⟩,h3⟩,h4⟩:=hf
  simp only[Shs.size] at hl
  obtain⟨x,hx⟩:=h f (by simp)
  obtain⟨y1,w1,l1,r1⟩:=o7 s f.type fuel _ x h3 hx
  obtain⟨y2,w2,r2⟩:=xS r q (n0+s.size) fuel cs h4 (fun f' hm=>h f' (List.mem_cons_of_mem _ hm)) (by omega)
  refine⟨(y1,y2),⟨w1,w2⟩,fun j c v hc hv=>?_⟩
  simp only[Shs.cells] at hc
  rcases Nat.lt_or_ge j s.size with hj|hj
  ·rw[List.getElem?_append_left (by rw[Sh.cells_size]; exact hj)] at hc
   refine r1 j c v hc ?_
   rw[h1,h2,List.getElem?_take,if_pos hj,List.getElem?_drop]
   exact hv
  ·rw[List.getElem?_append_right (by rw[Sh.cells_size]; exact hj),Sh.cells_size] at hc
   refine r2 _ c v hc ?_
   rw[show n0+s.size+(j-s.size)=n0+j by omega]
   exact hv
theorem xT:(fs:Shs)→∀(u:TypeId) (n i0 fuel:Nat) (cs:List Value),xR P fs u n=true →
  (∀i,i<n→∃x:DataW H × List MemPlace,DataW.trod enc P w base spare held fuel u ((cs.drop ((i0+i)*P.cellsOf u)).take (P.cellsOf u))=some x)→i0*P.cellsOf u+fs.size≤cs.length →
  ∃y:fs.ty,Wfs fs y∧∀(j:Nat) c v,(fs.cells y)[j]?=some c→cs[i0*P.cellsOf u+j]?=some v→Rep [] (gA w) w c v
 |.nil,u,n,i0,fuel,cs,hf,h,hl=>⟨(),trivial,fun j c v hc=>by simp[Shs.cells] at hc⟩
 |.cons s r,u,0,i0,fuel,cs,hf,h,hl=>by simp[xR] at hf
 |.cons s r,u,n+1,i0,fuel,cs,hf,h,hl=>by
  simp only[xR,Bool.and_eq_true,decide_eq_true_eq] at hf
  obtain⟨⟨h2,h3⟩,h4⟩:=hf
  simp only[Shs.size] at hl
  obtain⟨x,hx⟩:=h 0 (by omega)
  obtain⟨y1,w1,l1,r1⟩:=o7 s u fuel _ x h3 hx
  have hm:(i0+1)*P.cellsOf u=i0*P.cellsOf u+s.size:=by rw[Nat.add_mul,Nat.one_mul,h2]
  obtain⟨y2,w2,r2⟩:=xT r u n (i0+1) fuel cs h4 (fun i hi=>by
   have:=h (i+1) (by omega)
   rwa [show i0+(i+1)=i0+1+i by omega] at this) (by rw[hm]; omega)
  refine⟨(y1,y2),⟨w1,w2⟩,fun j c v hc hv=>?_⟩
  simp only[Shs.cells] at hc
  rcases Nat.lt_or_ge j s.size with hj|hj
  ·rw[List.getElem?_append_left (by rw[Sh.cells_size]; exact hj)] at hc
   refine r1 j c v hc ?_
   rw[h2,Nat.add_zero,List.getElem?_take,if_pos hj,List.getElem?_drop,←h2]
   exact hv
  ·rw[List.getElem?_append_right (by rw[Sh.cells_size]; exact hj),Sh.cells_size] at hc
   refine r2 _ c v hc ?_
   rw[hm,show i0*P.cellsOf u+s.size+(j-s.size)=i0*P.cellsOf u+j by omega]
   exact hv
end
end
open Go.ChangeAt Go.ChangeShapes Go.WideShapes
theorem I4:ownKnob Tryz.prog.godebug=none:=by kernel_rfl
theorem I5:laidOutB Tryz.prog=true:=by kernel_rfl
theorem sP {H:Type} {enc:TypeId × Value→H} {P:Program} {f:Func} {s:ChangeSpec} {apart fresh handsOn again:Bool} {W W':World} {args:Array Value} {v:Value} {ds gs:List (DataW H)} {before pa pv:List MemPlace}
  (hW:DataW.Whole enc P f.params.toList s.vars apart W args.toList ds gs before)
  (hres:∀(b:Nat) (sp:Nat→Bool) (hd:Bool),DataW.TrodAll enc P W' b sp hd f.resultTypes.toList (v.resultList f.resultTypes.size) (s.fn H (ds++gs)).results [])
  (hargs:∀sp:Nat→Bool,(∀p∈before,sp p.block=true)→DataW.TrodAll enc P W' 0 sp true f.params.toList args.toList (s.fn H (ds++gs)).args pa)
  (hvars:∀sp:Nat→Bool,(∀p∈before,sp p.block=true)→DataW.TrodVars enc P W' sp s.vars (s.fn H (ds++gs)).vars pv)
  (hps:before=pa++pv) (hb:Below W.heap.size W W')
  (hok:∀(j:Nat) (t:TypeId) (r:Value),f.resultTypes[j]?=some t→(v.resultList f.resultTypes.size)[j]?=some r→Value.okWide P W' .any 0 t r) :
  s.post enc P f apart fresh handsOn again W args v W':=by
 have hold:∀p∈before,(fun b=>decide (b<W.heap.size)) p.block=true:=fun p hp=>by simpa using hW.lt p hp
 have hlt:=hW.lt
 refine⟨ds,gs,before,[],pa,pv,hW,hres _ _ _,hargs _ hold,hvars _ hold,hb.frame _,fun _=>?_⟩
 obtain⟨_,_,_,_,_,hz,hn⟩:=hW
 refine⟨hok,_,_,([]++pa)++pv,⟨[]++pa,pv,trodAll_append (hargs _ (fun _ _=>rfl)) (hres _ _ _),hvars _ (fun _ _=>rfl),rfl,?_,?_⟩,?_⟩
 ·intro b off hp
  have hm:MemPlace.cell b off∈before:=by rw[hps]; simpa using hp
  rw[hb.frozen (p:=⟨b,off,none⟩) (hlt _ hm)]
  exact hz b off hm
 ·intro ha
  have:=hn ha
  rw[hps] at this
  simpa using this
 ·intro p hp _
  rw[hps]
  simpa using hp
def Shs.vals:(fs:Shs)→fs.ty→List AVal
 |.nil,_=>[]
 |.cons s r,x=>s.val x.1::r.vals x.2
def kP (P:Program):Shs→List TypeId→Bool
 |.nil,[]=>true
 |.cons s r,t::q=>jp P s t&&(P.readableRec t&&decide (t<P.types.size))&&kP P r q
 |_,_=>false
section
variable {P:Program} {H:Type} {enc:TypeId × Value→H} {w:World} {base:Nat} {spare:Nat→Bool} {held:Bool}
theorem I6 {s:Sh} {t:TypeId} {v:Value} {d:DataW H} {ps:List MemPlace} {r:Reach} {b0:Nat} (hf:jp P s t=true) (hv:Value.okWide P w r b0 t v) (h:DataW.Trod enc P w base spare held t v d ps) :
  ∃y:s.ty,Wf s y∧Rep [] (gA w) w (s.val y) v:=by
 obtain⟨fuel,h⟩:=h
 obtain⟨y,h1,h2,h3⟩:=o7 s t fuel _ _ hf h
 refine⟨y,h1,?_⟩
 have one:(∀a,v≠.agg a)→s.cells y=[s.val y]→Rep [] (gA w) w (s.val y) v:=fun hn hc=>by
  have hcv:v.cells.toList=[v]:=by cases v<;>first|rfl|exact absurd rfl (hn _)
  exact h3 0 _ v (by rw[hc]; rfl) (by rw[hcv]; rfl)
 cases s with
 |recd fs=>
  simp only[jp] at hf
  split at hf
  ·rename_i l hu
   simp only[Value.okWide,hu] at hv
   obtain⟨cs,rfl,_⟩:=hv
   refine .agg _ _ ((Sh.cells_size (.recd fs) y).trans (by simpa[Value.cells] using h2.symm)) fun j c x hc hx=>h3 j c x hc (by simpa[Value.cells] using hx)
  ·rename_i n u hu
   simp only[Value.okWide,hu] at hv
   obtain⟨cs,rfl,_⟩:=hv
   refine .agg _ _ ((Sh.cells_size (.recd fs) y).trans (by simpa[Value.cells] using h2.symm)) fun j c x hc hx=>h3 j c x hc (by simpa[Value.cells] using hx)
  ·cases hf
 |int k=>
  refine one (fun a e=>?_) rfl
  subst e
  simp only[jp] at hf
  split at hf
  ·rename_i j hu
   simp[Value.okWide,hu,Cell.okWide,Cell.ok] at hv
  ·cases hf
 |bool=>
  refine one (fun a e=>?_) rfl
  subst e
  simp only[jp] at hf
  split at hf
  ·rename_i hu
   simp[Value.okWide,hu,Cell.okWide,Cell.ok] at hv
  ·cases hf
 |str=>
  refine one (fun a e=>?_) rfl
  subst e
  simp only[jp] at hf
  split at hf
  ·rename_i hu
   simp[Value.okWide,hu,Cell.okWide,Cell.ok] at hv
  ·cases hf
 |mp k v=>simp[jp] at hf
 |sl e0=>
  refine one (fun a e=>?_) rfl
  subst e
  simp only[jp] at hf
  split at hf
  ·rename_i u hu
   simp[Value.okWide,hu,Cell.okWide,Cell.ok] at hv
  ·cases hf
theorem xU {r:Reach} {b0:Nat}:∀(ss:Shs) (ts:List TypeId) (vs:List Value) (ds:List (DataW H)) (ps:List MemPlace),kP P ss ts=true→DataW.TrodAll enc P w base spare held ts vs ds ps →
  (∀(j:Nat) t v,ts[j]?=some t→vs[j]?=some v→Value.okWide P w r b0 t v) →
  ∃ys:ss.ty,Wfs ss ys∧(ss.vals ys).length=vs.length∧ds.length=ts.length∧∀(j:Nat) c v,(ss.vals ys)[j]?=some c→vs[j]?=some v→Rep [] (gA w) w c v
 |.nil,[],vs,ds,ps,hf,h,hv=>by
  obtain⟨rfl,rfl,rfl⟩:=trodAll_nil h
  exact⟨(),trivial,rfl,rfl,fun j c v hc=>by simp[Shs.vals] at hc⟩
 |.cons s q,[],vs,ds,ps,hf,h,hv=>by simp[kP] at hf
 |.nil,_::_,vs,ds,ps,hf,h,hv=>by simp[kP] at hf
 |.cons s q,t::ts,vs,ds,ps,hf,h,hv=>by
  simp only[kP,Bool.and_eq_true] at hf
  obtain⟨v,vs',d,ds',p1,p2,rfl,rfl,rfl,h1,h2⟩:=trodAll_cons h
  obtain⟨y,a1,a2⟩:=I6 hf.1.1 (hv 0 t v rfl rfl) h1
  obtain⟨ys,b1,b2,b3,b4⟩:=xU q ts vs' ds' p2 hf.2 h2 fun j t v ht hv'=>hv (j+1) t v (by simpa using ht) (by simpa using hv')
  refine⟨(y,ys),⟨a1,b1⟩,by simp[Shs.vals,b2],by simp[b3],fun j c v hc hv'=>?_⟩
  cases j with
  |zero=>
   simp only[Shs.vals,List.getElem?_cons_zero,Option.some.injEq] at hc hv'
   subst hc; subst hv'; exact a2
  |succ j=>exact b4 j c v (by simpa[Shs.vals] using hc) (by simpa using hv')
theorem tD (hl:laidOutB P=true) {W W':World} {sp':Nat→Bool}:∀(ss:Shs) (ts:List TypeId) (vs:List Value) (ds:List (DataW H)) (ps:List MemPlace),kP P ss ts=true→DataW.TrodAll enc P W base (fun _=>true) true ts vs ds ps →
  (∀p∈ps,W.sameAt W' p)→(∀p∈ps,sp' p.block=true)→DataW.TrodAll enc P W' base sp' true ts vs ds ps
 |.nil,[],vs,ds,ps,hf,h,_,_=>by
  obtain⟨rfl,rfl,rfl⟩:=trodAll_nil h
  rfl
 |.cons s q,[],vs,ds,ps,hf,h,_,_=>by simp[kP] at hf
 |.nil,_::_,vs,ds,ps,hf,h,_,_=>by simp[kP] at hf
 |.cons s q,t::ts,vs,ds,ps,hf,h,h1,h2=>by
  simp only[kP,Bool.and_eq_true,decide_eq_true_eq] at hf
  obtain⟨v,vs',d,ds',p1,p2,rfl,rfl,rfl,a1,a2⟩:=trodAll_cons h
  exact⟨p1,p2,WideElems.Trod_stays hl hf.1.2.1 hf.1.2.2 a1 (fun p hp=>h1 p (by simp[hp])) (fun p hp=>h2 p (by simp[hp])),
   tD hl q ts vs' ds' p2 hf.2 a2 (fun p hp=>h1 p (by simp[hp])) (fun p hp=>h2 p (by simp[hp])),rfl⟩
theorem I7 {F:List AVal→Option AOut} {fid:FuncId} {fn:Func} {s:ChangeSpec} {apart fresh handsOn again:Bool} (hF:FspOk P fid (gP F)) (hl:laidOutB P=true) (ss:Shs) (hfit:kP P ss fn.params.toList=true) (hnv:s.vars=[])
  {tb:TypeId} (hres:fn.resultTypes=#[tb]) (hb:P.underlying tb=some .bool) (hlaw:∀ys:ss.ty,Wfs ss ys→F (ss.vals ys)=some (.ret (.bool true)))
  (hfn:∀ds:List (DataW H),ds.length=fn.params.toList.length→(s.fn H ds).results=[.lit (.bool true)]∧(s.fn H ds).args=ds∧(s.fn H ds).vars=[])
  {W:World} {b0:Nat} {args:Array Value} {ds gs:List (DataW H)} {before:List MemPlace}
  (hval:∀(j:Nat) t v,fn.params[j]?=some t→args[j]?=some v→Value.okWide P W .any b0 t v) (hW:DataW.Whole enc P fn.params.toList s.vars apart W args.toList ds gs before) :
  Calls P fid args W fun e W'=>∃v,e=.returned v∧s.post enc P fn apart fresh handsOn again W args v W':=by
 have hW':=hW
 obtain⟨p,q,hA,hV,rfl,hfz,hnd⟩:=hW
 rw[hnv] at hV
 obtain⟨rfl,rfl⟩:=trodVars_none hV
 obtain⟨ys,h1,h2,h3,h4⟩:=xU ss _ _ _ _ hfit hA fun j t v ht hv=>hval j t v (by simpa using ht) (by simpa using hv)
 have hcall:=hF.calls (ss.vals ys) (.ret (.bool true)) (by unfold gP; rw[hlaw ys h1]) (fun b=>b<W.heap.size) W args (fun b hb=>hb) (by simpa using h2) fun j c x hc hx=>h4 j c x hc (by simpa using hx)
 refine hcall.mono fun e W' hp=>?_
 obtain⟨M',_,_,_,hbl,x,rfl,hr⟩:=hp
 have:=co hr
 subst this
 obtain⟨f1,f2,f3⟩:=hfn ds h3
 have hlt:∀x∈p,x.block<W.heap.size:=fun x hx=>hW'.lt x (by simpa using hx)
 refine⟨_,rfl,sP (pa:=p++[]) (pv:=[]) hW' (fun b sp hd=>?_) (fun sp hsp=>?_) (fun sp hsp=>?_) (by simp) hbl (ok_one hres rfl (okWide_bool_mk hb _))⟩
 ·rw[List.append_nil,f1,hres]
  exact trodAll_mk1 (shut_bool hb _)
 ·rw[List.append_nil,f2,List.append_nil]
  exact tD hl ss _ _ _ _ hfit hA (fun x hx=>hbl.same (hlt x hx)) fun x hx=>hsp x (by simpa using hx)
 ·rw[List.append_nil,f3,hnv]
  rfl
end
end Go.Proofs.YtpgfncncgjihpaaGreat
namespace Go.Proofs.YtpgfncncgjihpaaGreat
open Go.RowKit
def WpR (P:Program) (c:Code) (Q:Exit→Act→World→Prop) (a:Act) (w:World):Prop:=∀b:Frame,Fj b.fn→b.roundOf=none→WpB b P c Q a w
theorem xV {b:Frame} {P:Program} {c:Code} {Q Q':Exit→Act→World→Prop} {a:Act} {w:World} (h:WpB b P c Q a w) (f:∀e a w,Q e a w→Q' e a w):WpB b P c Q' a w:=fun k cs=>
 let ⟨e,a',w',q,r⟩:=h k cs
 ⟨e,a',w',f e a' w' q,r⟩
section
variable {P:Program} {Q:Exit→Act→World→Prop} {a:Act} {w:World}
theorem di {x y:Code} (h:WpR P x (Exit.then (WpR P y Q) Q) a w):WpR P (.seq x y) Q a w:=fun b hx hr=>Ek (xV (h b hx hr) fun e a' w' q=>by
 cases e with
 |normal=>exact q b hx hr
 |_=>exact q)
theorem lR {o:Operand} {x y:Code} {t:Bool} (hc:a.eval o=.bool t) (h:WpR P (if t then x else y) Q a w):WpR P (.cond o x y) Q a w:=fun b hx hr=>y9 hc (h b hx hr)
theorem tE {id:Nat} {x:Code} (h:WpR P x (Exit.inBlock id Q) a w):WpR P (.block id x) Q a w:=fun b hx hr=>un (h b hx hr)
theorem I8 {id:Nat} (h:Q (.exit id) a w):WpR P (.exit id) Q a w:=fun _ _ _=>eU (wpIn_exit h)
theorem xW (h:Q .normal a w):WpR P .skip Q a w:=fun _ _ _=>eU (wpIn_skip h)
theorem cL {id:Nat} {ops:Array Oper} (h:wpOpsIn (FW none) 0 P ops Q (List.range ops.size) a w):WpR P (.region id ops false) Q a w:=fun b _ hr=>eU (by rw[hr]; exact wpIn_region h)
theorem I9 {c:Code} (I:Act→World→Prop) (μ:Act→World→Nat) (h0:I a w) (round:∀a w,I a w→WpR P c (Exit.then (fun a' w'=>I a' w'∧μ a' w'<μ a w) Q) a w):WpR P (.loop c) Q a w:=fun b hx hr=>by
 have key:∀m a w,μ a w<m→I a w→mz b P c Q m a w:=by
  intro m
  induction m with
  |zero=>intro a w hm _; exact absurd hm (Nat.not_lt_zero _)
  |succ m ih=>
   intro a w hm hI
   exact xV (round a w hI b hx hr) fun e a' w' q=>by
    cases e with
    |normal=>exact ih a' w' (by have:=q.2; omega) q.1
    |_=>exact q
 exact zc _ (key (μ a w+1) a w (Nat.lt_succ_self _) h0)
end
section
variable {P:Program} {T:Tab} {env:Env} {K0:Nat→Prop} {g0:Gh} {w0:World}
structure Mid (K0:Nat→Prop) (g0:Gh) (w0:World) (h:List ABlk) (tm:List AVal) (a:Act) (w:World) (K:Nat→Prop) (g:Gh):Prop where
 kk:∀b,K0 b→K b
 st:St K h g w
 le:Le K0 [] g0 w0 h g w
 tr:aV h g w tm a.tmps
 df:fC K0 K g w a.defers
theorem o8 (hm:P.follows .mixedOrders=true) (hT:TabOk P T) (hE:EnvOk P env) {N:Nat} {p q:Code} {h h2:List ABlk} {tm tm2:List AVal} (hp:ev real T env N p ⟨tm,h⟩ aO=some (.normal,⟨tm2,h2⟩))
  {a:Act} {w:World} {K:Nat→Prop} {g:Gh} {Q:Exit→Act→World→Prop} (m:Mid K0 g0 w0 h tm a w K g) (next:∀a' w' K' g',(∀b,K b→K' b)→Mid K0 g0 w0 h2 tm2 a' w' K' g'→WpR P q Q a' w'):WpR P (Code.seq p q) Q a w:=
 di fun b hx hr=>(jl (b:=b) (K0:=K0) hm hT hE hx N p ⟨tm,h⟩ .normal ⟨tm2,h2⟩ a w g K _ (fun _=>m.kk) (fun h=>by rw[hr] at h; cases h) hp m.st m.tr m.df ⟨fun K' g' a' w' e k1 i1 i2 i3 i4 i5=>by
  rw[dR i5]
  exact next a' w' K' g' k1 ⟨fun b hb=>k1 b (m.kk b hb),i1,m.le.trans (i2.less m.kk),i3,i4⟩⟩)
theorem M4 (hm:P.follows .mixedOrders=true) (hT:TabOk P T) (hE:EnvOk P env) {N:Nat} {p:Code} {h h2:List ABlk} {tm tm2:List AVal} (hp:ev real T env N p ⟨tm,h⟩ aO=some (.ret,⟨tm2,h2⟩))
  {a:Act} {w:World} {K:Nat→Prop} {g:Gh} {Q:Exit→Act→World→Prop} (m:Mid K0 g0 w0 h tm a w K g) (next:∀a' w' K' g',Mid K0 g0 w0 h2 tm2 a' w' K' g'→Q .ret a' w'):WpR P p Q a w:=
 fun b hx hr=>jl (b:=b) (K0:=K0) hm hT hE hx N p ⟨tm,h⟩ .ret ⟨tm2,h2⟩ a w g K _ (fun _=>m.kk) (fun h=>by rw[hr] at h; cases h) hp m.st m.tr m.df ⟨fun K' g' a' w' e k1 i1 i2 i3 i4 i5=>by
  rw[nJ i5]
  exact next a' w' K' g' ⟨fun b hb=>k1 b (m.kk b hb),i1,m.le.trans (i2.less m.kk),i3,i4⟩⟩
theorem M5 (hT:TabOk P T) (hE:EnvOk P env) {ops:Array Oper} {rest:List Oper} {i:Nat} (hr:ops.toList.drop i=rest) {h h2:List ABlk} {tm tm2:List AVal} (hp:ce real T env false ops rest ⟨tm,h⟩ aO=some (.normal,⟨tm2,h2⟩))
  {a:Act} {w:World} {K:Nat→Prop} {g:Gh} {Q:Exit→Act→World→Prop} (m:Mid K0 g0 w0 h tm a w K g) (next:∀a' w' g',Le K h g w h2 g' w'→a'.defers=a.defers→Mid K0 g0 w0 h2 tm2 a' w' K g'→Q .normal a' w'):wpOpsIn (FW none) 0 P ops Q (List.range' i rest.length) a w:=
 mb hT hE false aO h g w a.defers ⟨fun x st' g' a' w' e hk s l t hd xr=>by
  cases hk
  rw[dR xr]
  exact next a' w' g' l hd ⟨m.kk,s,m.le.trans (l.less m.kk),t,by rw[hd]; exact m.df.mono l⟩⟩ rest i _ a w g hr hp m.st .refl m.tr rfl
theorem Ja (hT:TabOk P T) (hE:EnvOk P env) {o:Oper} {h h2:List ABlk} {tm:List AVal} {v:AVal} (hp:kT real T env false o ⟨tm,h⟩ (fun x v s=>some (x,v,s))=some (.normal,v,⟨tm,h2⟩))
  {a:Act} {w:World} {K:Nat→Prop} {g:Gh} {Nx:Act→World→Prop} {Q:Exit→Act→World→Prop} (m:Mid K0 g0 w0 h tm a w K g) (next:∀x w' g',Le K h g w h2 g' w'→Mid K0 g0 w0 h2 ((⟨tm,h2⟩:AS).put o.dst v).tmps (a.put o.dst x) w' K g'→Nx (a.put o.dst x) w'):o.wpIn (FW none) 0 P a w Nx Q:=
 l9 (ro:=none) (K:=K) (st:=⟨tm,h⟩) (g:=g) (k:=fun x v s=>some (x,v,s)) (r:=(.normal,v,⟨tm,h2⟩)) hT hE m.st m.tr false hp ⟨fun v' st' g' w' x hk htm s l r=>by
  cases hk
  refine next x w' g' l ⟨m.kk,s,m.le.trans (l.less m.kk),?_,by rw[eO]; exact m.df.mono l⟩
  exact aV.put (s:=⟨tm,h2⟩) (m.tr.mono l) o.dst r,fun v' u st' g' w' x hk _ _ _ _=>by cases hk⟩
def om (keep:List Nat):Nat→List AVal→List AVal
 |_,[]=>[]
 |i,v::r=>(bif keep.contains i then v else .any)::om keep (i+1) r
theorem tF (keep:List Nat):∀(l:List AVal) (n j:Nat),(om keep n l)[j]?=l[j]?∨((om keep n l)[j]?=some .any∧j<l.length)
 | [],_,_=>.inl rfl
 |v::r,n,0=>by
  rw[om]
  cases keep.contains n
  ·exact .inr ⟨rfl,Nat.succ_pos _⟩
  ·exact .inl rfl
 |v::r,n,j+1=>by
  rw[om,List.getElem?_cons_succ,List.getElem?_cons_succ]
  exact (tF keep r (n+1) j).imp id fun h=>⟨h.1,Nat.succ_lt_succ h.2⟩
theorem tG (keep:List Nat):∀(l:List AVal) (n:Nat),(om keep n l).length=l.length
 | [],_=>rfl
 |v::r,n=>by rw[om,List.length_cons,tG keep r,List.length_cons]
theorem Mid.weak {h tm a w K g} (m:Mid K0 g0 w0 h tm a w K g) (keep:List Nat):Mid K0 g0 w0 h (om keep 0 tm) a w K g:=
 ⟨m.kk,m.st,m.le,⟨by rw[tG]; exact m.tr.1,fun j c x hc hx=>by
  rcases tF keep tm 0 j with e|⟨e,_⟩
  ·rw[e] at hc; exact m.tr.2 j c x hc hx
  ·rw[e] at hc; cases hc; exact .any x⟩,m.df⟩
theorem Mid.turn {h tm a w K g} (m:Mid K0 g0 w0 h tm a w K g) {w':World} {r:Nat} (hos:w'.os=w.os) (hta:w'.tape=w.tape) (hou:w'.output=w.output) (hsz:w.heap.size≤w'.heap.size) (hw:∀n,n<w.heap.size→n≠r→w'.heap[n]?=w.heap[n]?)
  (h1:¬K r) (h2:¬g.M r) (h3:∀i,alive h i→an (g.ρ i)≠some r):Mid K0 g0 w0 h tm a w' K g:=by
 have l:Le K h g w h g w':=⟨Nat.le_refl _,fun _ h=>h,fun _ h=>h,fun _ h=>.inl h,fun b hb=>hw b (m.st.low b hb) fun e=>h2 (e▸hb),fun b hb=>hw b (m.st.klow b hb) fun e=>h1 (e▸hb),fun _ wr cs' _ h=>⟨wr,cs',h,rfl,rfl⟩,fun _ wr _ _ xs' _ h=>⟨wr,xs',h,fun _=>rfl,rfl⟩,fun _ st pend _ _ _ _ _ h=>⟨st,pend,h,rfl⟩,fun _ _ h=>h,fun _ _ _ _ h=>h,hos,hta,hou,hsz⟩
 refine⟨m.kk,⟨fun i b hb=>(m.st.blk i b hb).mono l rfl fun n hd hn=>?_,m.st.inj,fun i b ha hb=>?_,fun b hb=>Nat.lt_of_lt_of_le (m.st.low b hb) hsz,fun b hb=>Nat.lt_of_lt_of_le (m.st.klow b hb) hsz⟩,m.le.trans (l.less m.kk),m.tr.mono l,m.df.mono l⟩
 ·exact hw n (m.st.sep i n ⟨b,hb,hd⟩ hn).2.2 fun e=>h3 i ⟨b,hb,hd⟩ (e▸hn)
 ·obtain⟨q1,q2,q3⟩:=m.st.sep i b ha hb
  exact⟨q1,q2,Nat.lt_of_lt_of_le q3 hsz⟩
theorem Mid.lock {h tm a w K g} (m:Mid K0 g0 w0 h tm a w K g) {r:Nat} (hr:r<w.heap.size) (h3:∀i,alive h i→an (g.ρ i)≠some r):Mid K0 g0 w0 h tm a w (fun b=>K b∨b=r) g:=
 ⟨fun b hb=>.inl (m.kk b hb),⟨m.st.blk,m.st.inj,fun i b ha hb=>by
  obtain⟨q1,q2,q3⟩:=m.st.sep i b ha hb
  exact⟨fun h=>h.elim q1 fun e=>h3 i ha (e▸hb),q2,q3⟩,m.st.low,fun b hb=>hb.elim (m.st.klow b) fun e=>e▸hr⟩,m.le,m.tr,m.df.more fun b hb=>.inl hb⟩
theorem Mid.unlock {h tm a w K K' g} (m:Mid K0 g0 w0 h tm a w K' g) (hk:∀b,K b→K' b) (h0:∀b,K0 b→K b) (hd:fC K0 K g w a.defers):Mid K0 g0 w0 h tm a w K g:=
 ⟨h0,m.st.less hk,m.le,m.tr,hd⟩
theorem Mid.put {h tm a w K g} (m:Mid K0 g0 w0 h tm a w K g) (dst:Option Nat) {v:AVal} {x:Value} (r:Rep h g w v x):Mid K0 g0 w0 h ((⟨tm,h⟩:AS).put dst v).tmps (a.put dst x) w K g:=
 ⟨m.kk,m.st,m.le,aV.put (s:=⟨tm,h⟩) m.tr dst r,by rw[eO]; exact m.df⟩
theorem aZ {ops:Array Oper} {o:Oper} {i:Nat} {l:List Nat} {a:Act} {w:World} {Q:Exit→Act→World→Prop} (h:ops[i]?=some o) (hg:o.guard=none) (hw:o.wpIn (FW none) 0 P a w (wpOpsIn (FW none) 0 P ops Q l) Q):wpOpsIn (FW none) 0 P ops Q (i::l) a w:=by
 simp only[wpOpsIn,h]
 rw[if_pos (by simp[Region.wanted,hg])]
 exact hw
end
theorem bS (a:Act) (dst:Option Nat) (v:Value) {t:Nat} (h:dst≠some t):(a.put dst v).tmps.getD t Go.undef=a.tmps.getD t Go.undef:=by
 cases dst with
 |none=>rfl
 |some d=>
  have hd:d≠t:=fun e=>h (e▸rfl)
  show (a.tmps.setIfInBounds d v).getD t Go.undef=_
  rw[Array.getD_eq_getD_getElem?,Array.getD_eq_getD_getElem?,Array.getElem?_setIfInBounds,if_neg hd]
theorem aQ (a:Act) (d:Nat) (v:Value) (h:d<a.tmps.size):(a.put (some d) v).tmps.getD d Go.undef=v:=by
 show (a.tmps.setIfInBounds d v).getD d Go.undef=_
 rw[Array.getD_eq_getD_getElem?,Array.getElem?_setIfInBounds,if_pos rfl,if_pos h]; rfl
theorem A6 {F:Fence} {n:Nat} {P:Program} {o:Oper} {a:Act} {w:World} {nx nx':Act→World→Prop} {Q Q':Exit→Act→World→Prop} {t:Nat} (hd:o.dst≠some t) (h:o.wpIn F n P a w nx Q)
  (hn:∀a' w',nx a' w'→a'.tmps.getD t Go.undef=a.tmps.getD t Go.undef→nx' a' w') (hq:∀e a' w',e≠.normal→Q e a' w'→Q' e a' w'):o.wpIn F n P a w nx' Q':=by
 refine⟨h.1,?_⟩
 obtain⟨_,h2⟩:=h
 generalize (o.semAt F.round a.eval).run P w=r at h2
 have lo:LetsOut Q→LetsOut Q':=fun ⟨a',w',h⟩=>⟨a',w',hq _ _ _ (by simp) h⟩
 unfold Oper.uponIn at h2 ⊢
 split at h2
 ·exact hn _ _ h2 (bS _ _ _ hd)
 ·exact hn _ _ h2 (bS _ _ _ hd)
 ·exact hn _ _ h2 (bS { a with defers:=_ } _ _ hd)
 ·refine⟨h2.1,CallsIn.mono h2.2 fun e w' he=>?_⟩
  cases e with
  |returned v=>exact hn _ _ he (bS _ _ _ hd)
  |panicked c=>exact hq _ _ _ (by simp) he
  |outgrown=>exact lo he
 ·exact⟨h2.1,RowsIn.mono h2.2 fun v w' he=>hn _ _ he (bS _ _ _ hd)⟩
 ·refine⟨h2.1,RoundIn.mono h2.2 fun e w' he=>?_⟩
  cases e with
  |returned v=>exact hn _ _ he (bS _ _ _ hd)
  |panicked c=>exact hq _ _ _ (by simp) he
  |outgrown=>exact lo he
 ·exact hq _ _ _ (by simp) h2
 ·exact h2.elim
theorem gJ {F:Fence} {n:Nat} {P:Program} {ops:Array Oper} {Q Q':Exit→Act→World→Prop} {t:Nat} {y:Value} (hd:∀(i:Nat) o,ops[i]?=some o→o.dst≠some t)
  (hn:∀a' w',Q .normal a' w'→a'.tmps.getD t Go.undef=y→Q' .normal a' w') (hq:∀e a' w',e≠.normal→Q e a' w'→Q' e a' w'):∀(l:List Nat) (a:Act) (w:World),a.tmps.getD t Go.undef=y→wpOpsIn F n P ops Q l a w→wpOpsIn F n P ops Q' l a w
 | [],a,w,e,h=>hn a w h e
 |i::r,a,w,e,h=>by
  unfold wpOpsIn at h ⊢
  split at h
  ·exact gJ hd hn hq r a w e h
  ·rename_i o ho
   split at h
   ·rename_i hw
    rw[if_pos hw]
    exact A6 (hd i o ho) h (fun a' w' hx he=>gJ hd hn hq r a' w' (he.trans e) hx) hq
   ·rename_i hw
    rw[if_neg hw]
    exact⟨h.1,gJ hd hn hq r _ _ ((bS _ _ _ (hd i o ho)).trans e) h.2⟩
theorem cQ (a:Act) (dst:Option Nat) (v:Value):(a.put dst v).tmps.size=a.tmps.size:=by
 cases dst with
 |none=>rfl
 |some d=>show (a.tmps.setIfInBounds d v).size=_; exact Array.size_setIfInBounds
theorem xY {P:Program} {T:Tab} {env:Env} {K0:Nat→Prop} {g0:Gh} {w0:World} (hT:TabOk P T) (hE:EnvOk P env) {ops:Array Oper} {rest:List Oper} {i:Nat} (hr:ops.toList.drop i=rest) {h h2:List ABlk} {tm tm2:List AVal} (hp:ce real T env false ops rest ⟨tm,h⟩ aO=some (.normal,⟨tm2,h2⟩))
  {t:Nat} (hd:∀(i:Nat) o,ops[i]?=some o→o.dst≠some t) {a:Act} {w:World} {K:Nat→Prop} {g:Gh} {Q:Exit→Act→World→Prop} (m:Mid K0 g0 w0 h tm a w K g)
  (next:∀a' w' g',Le K h g w h2 g' w'→a'.defers=a.defers→a'.tmps.getD t Go.undef=a.tmps.getD t Go.undef→Mid K0 g0 w0 h2 tm2 a' w' K g'→Q .normal a' w'):wpOpsIn (FW none) 0 P ops Q (List.range' i rest.length) a w:=
 gJ (Q:=fun e a' w'=>e=.normal∧∃g',Le K h g w h2 g' w'∧a'.defers=a.defers∧Mid K0 g0 w0 h2 tm2 a' w' K g') (y:=a.tmps.getD t Go.undef) hd
  (fun a' w' ⟨_,g',l,d,m'⟩ e=>next a' w' g' l d e m') (fun e a' w' hne hx=>absurd hx.1 hne) _ a w rfl (M5 hT hE hr hp m fun a' w' g' l d m'=>⟨rfl,g',l,d,m'⟩)
theorem Dy {e:Sh} (hf:∀x,∀c∈e.cells x,c.flat0=true) {h h':List ABlk} {g g':Gh} {w:World} {xs:List e.ty} {x:Value} (r:Rep h g w (.ro e xs) x) (hM:∀b,g.M b→g'.M b):Rep h' g' w (.ro e xs) x:=by
 cases r with
 |ro0 _ p c hc hc'=>exact .ro0 e p c hc hc'
 |ro1 _ _ b o c us h0 h1 h2 hm hc hr=>exact .ro1 e xs b o c us h0 h1 h2 (hM b hm) hc fun n x j cc a a'=>fV (hr n x j cc a a') (hf x cc (List.mem_of_getElem? a'))
section
variable {K0:Nat→Prop} {g0:Gh} {w0:World}
theorem Mid.one {h tm a w K g} (m:Mid K0 g0 w0 h tm a w K g) {i:Nat} {t:TypeId} {e:Sh} {xs:List e.ty} (h0:0<e.size) (hf:∀x,∀c∈e.cells x,c.flat0=true) (hi:h[i]?=some (.row true t e xs)) {tm':List AVal}
  (ht:aV [.row true t e xs] ⟨fun _=>g.ρ i,g.M⟩ w tm' a.tmps):Mid K0 g0 w0 [.row true t e xs] tm' a w K ⟨fun _=>g.ρ i,g.M⟩:=by
 have al:alive h i:=⟨_,hi,by simp⟩
 have one:∀(j:Nat) (b:ABlk),([.row true t e xs]:List ABlk)[j]?=some b→b=.row true t e xs:=fun j b hb=>by
  cases j with
  |zero=>simpa using hb.symm
  |succ j=>simp at hb
 have aj:∀j:Nat,alive [.row true t e xs] j→j=0:=fun j ⟨b,hb,_⟩=>by
  cases j with
  |zero=>rfl
  |succ j=>simp at hb
 refine⟨m.kk,⟨fun j b hb=>?_,fun j k b hj hk _ _=>by rw[aj j hj,aj k hk],fun j b hj hb=>m.st.sep i b al hb,m.st.low,m.st.klow⟩,?_,ht,m.df⟩
 ·rw[one j b hb]
  obtain⟨vs,h1,h2⟩:=(aU h0).1 (m.st.blk i _ hi)
  refine (aU (h:=[.row true t e xs]) (g:=⟨fun _=>g.ρ i,g.M⟩) h0).2 ⟨vs,h1,fun n x j c hx hc=>?_⟩
  obtain⟨u,q1,q2⟩:=h2 n x j c hx hc
  exact⟨u,q1,fV q2 (hf x c (List.mem_of_getElem? hc))⟩
 ·have l:=m.le
  exact⟨Nat.zero_le _,fun j hj=>absurd hj.lt (Nat.not_lt_zero j),l.m,l.new,l.mw,l.k,fun j _ _ hj=>absurd hj.lt (Nat.not_lt_zero j),fun j _ _ _ _ hj=>absurd hj.lt (Nat.not_lt_zero j),fun j _ _ _ _ _ _ hj=>absurd hj.lt (Nat.not_lt_zero j),fun j _ hj=>by simp at hj,fun j _ _ _ hj=>by simp at hj,l.os,l.tape,l.output,l.size⟩
def Dz:Gh:=⟨fun _=>Go.undef,fun _=>False⟩
theorem Mid.oneN {h tm a w K g} (m:Mid K0 g0 w0 h tm a w K g) {i:Nat} {t:TypeId} {e:Sh} {xs:List e.ty} (h0:0<e.size) (hf:∀x,∀c∈e.cells x,c.flat0=true) (hi:h[i]?=some (.row true t e xs)) {tm':List AVal}
  (ht:aV [.row true t e xs] ⟨fun _=>g.ρ i,fun _=>False⟩ w tm' a.tmps):Mid K0 Dz w0 [.row true t e xs] tm' a w K ⟨fun _=>g.ρ i,fun _=>False⟩:=by
 have al:alive h i:=⟨_,hi,by simp⟩
 have one:∀(j:Nat) (b:ABlk),([.row true t e xs]:List ABlk)[j]?=some b→b=.row true t e xs:=fun j b hb=>by
  cases j with
  |zero=>simpa using hb.symm
  |succ j=>simp at hb
 have aj:∀j:Nat,alive [.row true t e xs] j→j=0:=fun j ⟨b,hb,_⟩=>by
  cases j with
  |zero=>rfl
  |succ j=>simp at hb
 refine⟨m.kk,⟨fun j b hb=>?_,fun j k b hj hk _ _=>by rw[aj j hj,aj k hk],fun j b hj hb=>?_,fun _ h=>h.elim,m.st.klow⟩,?_,ht,?_⟩
 ·rw[one j b hb]
  obtain⟨vs,h1,h2⟩:=(aU h0).1 (m.st.blk i _ hi)
  refine (aU (h:=[.row true t e xs]) (g:=⟨fun _=>g.ρ i,fun _=>False⟩) h0).2 ⟨vs,h1,fun n x j c hx hc=>?_⟩
  obtain⟨u,q1,q2⟩:=h2 n x j c hx hc
  exact⟨u,q1,fV q2 (hf x c (List.mem_of_getElem? hc))⟩
 ·obtain⟨q1,_,q3⟩:=m.st.sep i b al hb
  exact⟨q1,fun h=>h.elim,q3⟩
 ·have l:=m.le
  exact⟨Nat.zero_le _,fun j hj=>absurd hj.lt (Nat.not_lt_zero j),fun _ h=>h.elim,fun _ h=>h.elim,fun _ h=>h.elim,l.k,fun j _ _ hj=>absurd hj.lt (Nat.not_lt_zero j),fun j _ _ _ _ hj=>absurd hj.lt (Nat.not_lt_zero j),fun j _ _ _ _ _ _ hj=>absurd hj.lt (Nat.not_lt_zero j),fun j _ hj=>by simp at hj,fun j _ _ _ hj=>by simp at hj,l.os,l.tape,l.output,l.size⟩
 ·obtain⟨rs,n1,n2,n3⟩:=m.df
  exact⟨rs,n1,n2,fun r hr=>let ⟨q1,q2,_,q4⟩:=n3 r hr; ⟨q1,q2,fun h=>h.elim,q4⟩⟩
theorem FI {P:Program} {T:Tab} (hT:TabOk P T) {f:FuncId} {fn:Func} (hf:P.funcs[f]?=some fn) {c:Code} (hc:fn.body=some c) {args:List AVal} {h1:List ABlk} {tm1:List AVal} {vs:List AVal} (hvs:kO T ⟨tm1,h1⟩ fn.results.toList=some vs)
  {K:Nat→Prop} {g g2:Gh} {w:World} {cargs:Array Value} (hs:St K [] g w) (hl:args.length=cargs.size) (hr:∀(j:Nat) c z,args[j]?=some c→cargs[j]?=some z→Rep [] g w c z)
  (run:∀(a:Act) (Q:Exit→Act→World→Prop),Mid K g w [] (args++List.replicate (fn.ntmps-args.length) .undef) a w K g→(∀a' w' K' g',Mid K g2 w h1 tm1 a' w' K' g'→Q .ret a' w')→WpR P c Q a w) :
  Calls P f cargs w (cM K [] g2 w h1 .normal (match (generalizing:=false) vs with|[v]=>v|vs=>.tup vs)):=by
 refine i8 hf hc fun b hbf hbr=>run _ _ ⟨fun _ h=>h,hs,.refl,⟨by simp[hl],fun j c x hc hx=>?_⟩,fC.nil⟩ (fun a' w' K' g' m=>?_) b ⟨fn,by rw[hbf,←hT.pr]; exact hf⟩ hbr
 ·rcases Nat.lt_or_ge j args.length with hj|hj
  ·rw[List.getElem?_append_left hj] at hc
   rw[Array.getElem?_append_left (by omega)] at hx
   exact hr j c x hc hx
  ·rw[List.getElem?_append_right hj,List.getElem?_replicate] at hc
   rw[Array.getElem?_append_right (by omega),Array.getElem?_replicate] at hx
   split at hc
   ·cases hc
    split at hx
    ·cases hx; exact .undef
    ·cases hx
   ·cases hc
 ·obtain⟨rs,n1,n2,n3⟩:=m.df
  show LeavesInM (FW none) 0 P fn a'.tmps (cM K [] g2 w h1 .normal _) a'.defers .returning w'
  rw[n2]
  refine fP (by simp) m.kk rs w' n1 n3 m.st m.le fun w2 j1 j2 j3=>?_
  obtain⟨z,e1,e2⟩:=oG hT j1 (m.tr.mono j3) hvs
  exact⟨z,e1,g',j1.less m.kk,j2,z,rfl,e2⟩
structure FspNew (P:Program) (f:FuncId) (S:Fsp):Prop where
 enter:∀args w,(callFunc f args).run P w=.ok (.enter f args) w
 nat:∀(α:Type) args (k:AOut→Option α),S α args k=(S AOut args some).bind k
 calls:∀args out,S AOut args some=some out→∀(M:Nat→Prop) w (cargs:Array Value),(∀b,M b→b<w.heap.size)→args.length=cargs.size →
  (∀(j:Nat) c x,args[j]?=some c→cargs[j]?=some x→Rep [] ⟨fun _=>Go.undef,M⟩ w c x)→Calls P f cargs w (kQ (fun _=>False) w out)
theorem kQ.more {M:Nat→Prop} {w:World} {out:AOut} {e:Ending} {w':World} (hM:∀b,M b→b<w.heap.size) (h:kQ (fun _=>False) w out e w'):kQ M w out e w':=by
 obtain⟨M',m1,m2,m3,hb,ho⟩:=h
 refine⟨fun b=>M b∨M' b,fun _ h=>.inl h,fun b h=>h.elim .inl fun h=>(m2 b h).elim (fun f=>f.elim) .inr,fun b h=>h.elim (fun h=>Nat.lt_of_lt_of_le (hM b h) hb.size) (m3 b),hb,?_⟩
 cases out with
 |ret v=>obtain⟨x,e1,e2⟩:=ho; exact⟨x,e1,vN e2 fun _ h=>.inr h⟩
 |pan v=>obtain⟨x,e1,e2⟩:=ho; exact⟨x,e1,vN e2 fun _ h=>.inr h⟩
theorem FspNew.ok {P:Program} {f:FuncId} {S:Fsp} (h:FspNew P f S):FspOk P f S:=
 ⟨h.enter,h.nat,fun args out ho M w cargs hM hl hr=>(h.calls args out ho M w cargs hM hl hr).mono fun e w' hp=>hp.more hM⟩
end
def thU (u p m:Int):Int:=IntKind.i64.wrap (u+IntKind.i64.wrap (IntKind.i64.wrap (m.tmod 7-3)*p))
def thV (v q m:Int):Int:=IntKind.i64.wrap (v+IntKind.i64.wrap (IntKind.i64.wrap (IntKind.i64.wrap (m.tdiv 7)-3)*q))
abbrev thB (t n x y u v s p q m:Int):BdI:=cbB t n x y (thU u p m) (thV v q m) s
abbrev ktmis (e:Int):AOut:=.pan (.ifc 145 (.agg [.int .i64 e]))
theorem Jb (N n0:Nat) (α:Type) (t n x y u v s:Int) (b:List BrI) (p q:Int) (m:Int) (k:AOut→Option α):am real tab ((twY Dt HE).env real tab N (n0+12)) N Tryz.f50 α [.agg [.int .i64 t,.int .i64 n,.int .i64 x,.int .i64 y,.int .i64 u,.int .i64 v,.int .i64 s,.ro (.recd (.cons (.int .i64) (.cons (.int .i64) (.cons (.int .i64) .nil)))) b,.int .i64 p,.int .i64 q],.int .i64 m] k =
 bif !(dw [thB t n x y u v s p q m]==0) then k (ktmis 4) else k (.ret (.agg [.int .i64 t,.int .i64 n,.int .i64 x,.int .i64 y,.int .i64 (thU u p m),.int .i64 (thV v q m),
 .int .i64 s,.bool false])):=by kernel_rfl
noncomputable def M6:Fsp:=fun _ args k=>match args with
 | [.agg [.int .i64 t,.int .i64 n,.int .i64 x,.int .i64 y,.int .i64 u,.int .i64 v,.int .i64 s,.ro (.recd (.cons (.int .i64) (.cons (.int .i64) (.cons (.int .i64) .nil)))) _,.int .i64 p,.int .i64 q],.int .i64 m]=>bif !(dw [thB t n x y u v s p q m]==0) then k (ktmis 4) else k (.ret (.agg [.int .i64 t,.int .i64 n,.int .i64 x,.int .i64 y,.int .i64 (thU u p m),.int .i64 (thV v q m),.int .i64 s,.bool false]))
 |_=>none
theorem M7:FspOk Tryz.prog 50 M6:=aq pY mR ⟨Tryz.func50,fun _ _=>by kernel_rfl⟩ (by intro α args k; unfold M6; split<;>simp only[ak,Option.bind_some,Option.bind_none]) fun args out hSm hEq=>by
 unfold M6 at hEq
 split at hEq
 ·rename_i t n x y u v s b p q m
  exact⟨1,12,(Jb 1 0 AOut t n x y u v s b p q m some).trans hEq⟩
 ·cases hEq
abbrev g8:TypeId:=65
abbrev DA (l:List BdI):ABlk:=.row true g8 pW l
def clX:Cv→Cv:=fun _ _ v args h k=>
 match v,args with
 |.fn f [],[.ro (.recd (.cons (.int .i64) (.cons (.int .i64) (.cons (.recd (.cons (.recd (.cons (.int .i64) (.cons (.int .i64) .nil))) (.cons (.recd (.cons (.int .i64) (.cons (.int .i64) .nil))) (.cons (.int .i64) .nil)))) (.cons .bool .nil))))) l]=>
  if f=89 then bif jZ (X:=BdI) l then k .normal (.own h.length) (h++[DA l]) else none else none
 |_,_=>none
theorem FJ:∀x:pW.ty,∀c∈pW.cells x,c.flat0=true:=fun x c hc=>by
 have:pW.cells x=[.int .i64 x.1,.int .i64 x.2.1,.int .i64 x.2.2.1.1.1,.int .i64 x.2.2.1.1.2.1,.int .i64 x.2.2.1.2.1.1,.int .i64 x.2.2.1.2.1.2.1,.int .i64 x.2.2.1.2.2.1,.bool x.2.2.2.1]:=rfl
 rw[this] at hc
 simp only[List.mem_cons,List.not_mem_nil,or_false] at hc
 rcases hc with rfl|rfl|rfl|rfl|rfl|rfl|rfl|rfl<;>rfl
/-! A copy, walked by hand. -/
def Jc:Code→Code|.seq _ b=>b|c=>c
def FK:Code→Code|.seq a _=>a|c=>c
def DB:Code→Array Oper|.region _ o _=>o|_=>#[]
def dj (ops : Array Oper) (i : Nat) : Oper := (ops[i]?).getD { dst := none, op := .move (.tmp 0), type := 0, pos := "", after := #[], guard := none }
def Qs:Code→Code|.cond _ a _=>a|c=>c
noncomputable def clA:Code:=(Tryz.f89.body).getD .ret
noncomputable def cl0:Array Oper:=DB (FK clA)
noncomputable def cl1:Array Oper:=DB (FK (FK (Jc clA)))
noncomputable def cl2:Array Oper:=DB (FK (Qs (Jc (FK (Jc clA)))))
noncomputable def cl3:Array Oper:=DB (FK (Jc (Jc clA)))
theorem Qt:clA=.seq (.region 0 cl0 false) (.seq (.seq (.region 1 cl1 false) (.cond (.tmp 4) (.seq (.region 2 cl2 false) .ret) .skip)) (.seq (.region 3 cl3 false) .ret)):=by kernel_rfl
abbrev nh:TypeId:=30
theorem xZ:cl0[0]?=some (dj cl0 0)∧(dj cl0 0).guard=none∧(dj cl0 0).dst=some 2∧(dj cl0 0).op=.assign (.const (.slice none 0 0))∧cl0.size=1:=⟨by kernel_rfl,by kernel_rfl,by kernel_rfl,by kernel_rfl,by kernel_rfl⟩
theorem x3:cl1[0]?=some (dj cl1 0)∧(dj cl1 0).guard=none∧(dj cl1 0).dst=some 3∧(dj cl1 0).op=.move (.tmp 0)∧cl1.size=2:=⟨by kernel_rfl,by kernel_rfl,by kernel_rfl,by kernel_rfl,by kernel_rfl⟩
theorem oo:cl1[1]?=some (dj cl1 1)∧(dj cl1 1).guard=none∧(dj cl1 1).dst=some 4∧(dj cl1 1).op=.binOp .eql nh (.tmp 3) (.const (.slice none 0 0)) nh:=⟨by kernel_rfl,by kernel_rfl,by kernel_rfl,by kernel_rfl⟩
theorem x4:cl2[0]?=some (dj cl2 0)∧(dj cl2 0).guard=none∧(dj cl2 0).dst=some 2∧(dj cl2 0).op=.assign (.const (.slice none 0 0))∧cl2.size=1:=⟨by kernel_rfl,by kernel_rfl,by kernel_rfl,by kernel_rfl,by kernel_rfl⟩
theorem x5:cl3[0]?=some (dj cl3 0)∧(dj cl3 0).guard=none∧(dj cl3 0).dst=some 5∧(dj cl3 0).op=.buildSlice nh 0 #[]∧cl3.size=4:=⟨by kernel_rfl,by kernel_rfl,by kernel_rfl,by kernel_rfl,by kernel_rfl⟩
theorem DC:cl3[1]?=some (dj cl3 1)∧(dj cl3 1).guard=none∧(dj cl3 1).dst=some 6∧(dj cl3 1).op=.move (.tmp 0):=⟨by kernel_rfl,by kernel_rfl,by kernel_rfl,by kernel_rfl⟩
theorem DD:cl3[2]?=some (dj cl3 2)∧(dj cl3 2).guard=none∧(dj cl3 2).dst=some 7∧(dj cl3 2).op=.call { callee:=.builtin .append,args:=#[.tmp 5,.tmp 6],argTypes:=#[nh,nh] }:=⟨by kernel_rfl,by kernel_rfl,by kernel_rfl,by kernel_rfl⟩
theorem DE:cl3[3]?=some (dj cl3 3)∧(dj cl3 3).guard=none∧(dj cl3 3).dst=some 2∧(dj cl3 3).op=.assign (.tmp 7):=⟨by kernel_rfl,by kernel_rfl,by kernel_rfl,by kernel_rfl⟩
theorem A7 (w:World):(do eqGuard .eql nh (.tmp 3) (.const (.slice none 0 0)) (.slice none 0 0) (.slice none 0 0); Go.binOp .eql nh (.slice none 0 0) (.slice none 0 0)).run Tryz.prog w=.ok (.bool true) w:=by kernel_rfl
theorem x6 (w:World) (ad:Addr) (n c:Nat):(do eqGuard .eql nh (.tmp 3) (.const (.slice none 0 0)) (.slice (some ad) n c) (.slice none 0 0); Go.binOp .eql nh (.slice (some ad) n c) (.slice none 0 0)).run Tryz.prog w=.ok (.bool false) w:=by kernel_rfl
theorem Qu (w:World):(Instr.buildSlice nh 0 #[]).run Tryz.prog w=.ok (.slice (some ⟨w.heap.size,0,none⟩) 0 0) (w.alloc (.cells #[] g8)):=by kernel_rfl
def p7 (w:World) (n:Nat) (vs:List Value) (e:Ending) (w':World):Prop:=∃v',e=.returned v'∧w'.ownsRow 0 g8 8 v' n vs∧Below w.heap.size w w'∧∀b,v'.ownBlock=some b→w.heap.size≤b
theorem Jd {w w':World} {n:Nat} {vs:List Value} {a:Act} {v':Value} (hd:a.defers=[]) (h2:a.tmps.getD 2 Go.undef=v') (h:p7 w n vs (.returned v') w'):bodyPostM (FW none) 0 Tryz.prog Tryz.f89 (p7 w n vs) .ret a w':=by
 show LeavesInM (FW none) 0 Tryz.prog Tryz.f89 a.tmps (p7 w n vs) a.defers .returning w'
 rw[hd]
 refine⟨v',?_,h⟩
 have hres:Tryz.f89.results=#[.tmp 2]:=by kernel_rfl
 rw[rC,hres,Array.mapM_eq_mapM_toList,bind_map_left,Sem.run_bind]
 show ((List.mapM (zh a.tmps) [.tmp 2]).run Tryz.prog w').andThen _=_
 rw[List.mapM_cons,Sem.run_bind]
 have:(zh a.tmps (.tmp 2)).run Tryz.prog w'=.ok v' w':=by rw[←h2]; rfl
 rw[this]
 rfl
theorem lS (a:Act) (d:Nat) (v:Value) {s:Nat} (h:s≠d):(a.put (some d) v).tmps.getD s Go.undef=a.tmps.getD s Go.undef:=bS a (some d) v fun e=>h (by cases e; rfl)
theorem fL {P:Program} {o:Oper} {a:Act} {w w':World} {x:Value} {next:Act→World→Prop} {Q:Exit→Act→World→Prop} (h:(execOp a.eval o).run P w=.ok (.value x) w') (hn:next (a.put o.dst x) w'):o.wpIn (FW none) 0 P a w next Q:=bX h hn
theorem A8 {w:World} {x:Value} {n:Nat} {vs:List Value} (hn:n≤100) (hlen:vs.length=n*8) (h1:∀u∈vs,u.oneCell'=true) (hx:(x=.slice none 0 0∧n=0∧vs=[])∨∃ad c,x=.slice (some ad) n c∧∀(j:Nat) u,vs[j]?=some u→w.cell? (ad.add j)=some u∧ad.block<w.heap.size) :
  Calls Tryz.prog 89 #[x] w (p7 w n vs):=by
 have hbody:Tryz.f89.body=some clA:=by kernel_rfl
 have hnt:Tryz.f89.ntmps=8:=by kernel_rfl
 refine i8 Tryz.func89 hbody fun b hbf hbr=>?_
 have hfn:Fj b.fn:=⟨_,by rw[hbf]; exact Tryz.func89⟩
 have main:WpR Tryz.prog clA (bodyPostM (FW none) 0 Tryz.prog Tryz.f89 (p7 w n vs)) { tmps:=#[x]++Array.replicate (Tryz.f89.ntmps-(#[x]:Array Value).size) Go.undef,defers:=[] } w:=by
  rw[hnt,Qt]
  have g0:(#[x]++Array.replicate (8-(#[x]:Array Value).size) Go.undef).getD 0 Go.undef=x:=by
   rw[Array.getD_eq_getD_getElem?,Array.getElem?_append_left (by simp)]
   rfl
  have hsz:(#[x]++Array.replicate (8-(#[x]:Array Value).size) Go.undef).size=8:=by simp
  generalize #[x]++Array.replicate (8-(#[x]:Array Value).size) Go.undef=tmps at *
  have hdf:({ tmps:=tmps,defers:=[] }:Act).defers=[]:=rfl
  have g0':({ tmps:=tmps,defers:=[] }:Act).tmps.getD 0 Go.undef=x:=g0
  have hsz':({ tmps:=tmps,defers:=[] }:Act).tmps.size=8:=hsz
  generalize ({ tmps:=tmps,defers:=[] }:Act)=a at *
  refine di (cL ?_)
  rw[xZ.2.2.2.2]
  show wpOpsIn (FW none) 0 Tryz.prog cl0 _ [0] a w
  refine aZ xZ.1 xZ.2.1 (fL (x:=.slice none 0 0) (w':=w) (by simp[execOp,xZ.2.2.2.1,Act.eval]) ?_)
  rw[xZ.2.2.1]
  have p1:(a.put (some 2) (.slice none 0 0)).tmps.getD 0 Go.undef=x:=(lS a 2 _ (by decide)).trans g0'
  have z1:(a.put (some 2) (.slice none 0 0)).tmps.size=8:=by rw[cQ]; exact hsz'
  have d1:(a.put (some 2) (.slice none 0 0)).defers=[]:=hdf
  generalize a.put (some 2) (.slice none 0 0)=a1 at *
  show WpR Tryz.prog (.seq (.seq (.region 1 cl1 false) (.cond (.tmp 4) (.seq (.region 2 cl2 false) .ret) .skip)) (.seq (.region 3 cl3 false) .ret)) _ a1 w
  refine di (di (cL ?_))
  rw[x3.2.2.2.2]
  show wpOpsIn (FW none) 0 Tryz.prog cl1 _ [0,1] a1 w
  have e0:a1.eval (.tmp 0)=x:=p1
  refine aZ x3.1 x3.2.1 (fL (x:=x) (w':=w) (by simp[execOp,x3.2.2.2.1,e0]) ?_)
  rw[x3.2.2.1]
  have p2:(a1.put (some 3) x).tmps.getD 0 Go.undef=x:=(lS a1 3 _ (by decide)).trans p1
  have q2:(a1.put (some 3) x).eval (.tmp 3)=x:=aQ a1 3 x (by omega)
  have z2:(a1.put (some 3) x).tmps.size=8:=by rw[cQ]; exact z1
  have d2:(a1.put (some 3) x).defers=[]:=d1
  generalize a1.put (some 3) x=a2 at *
  have hcn:a2.eval (.const (.slice none 0 0))=.slice none 0 0:=rfl
  rcases hx with ⟨rfl,rfl,rfl⟩|⟨ad,c,rfl,hcell⟩
  ·have hr:=A7 w
   refine aZ oo.1 oo.2.1 (fL (x:=.bool true) (w':=w) (by
    unfold execOp
    rw[oo.2.2.2]
    simp only[q2,hcn]
    rw[Sem.run_bind,hr]; rfl) ?_)
   rw[oo.2.2.1]
   have q3:(a2.put (some 4) (.bool true)).eval (.tmp 4)=.bool true:=aQ a2 4 _ (by omega)
   have z3:(a2.put (some 4) (.bool true)).tmps.size=8:=by rw[cQ]; exact z2
   have d3:(a2.put (some 4) (.bool true)).defers=[]:=d2
   generalize a2.put (some 4) (.bool true)=a3 at *
   refine lR (t:=true) q3 (di (cL ?_))
   rw[x4.2.2.2.2]
   show wpOpsIn (FW none) 0 Tryz.prog cl2 _ [0] a3 w
   refine aZ x4.1 x4.2.1 (fL (x:=.slice none 0 0) (w':=w) (by simp[execOp,x4.2.2.2.1,Act.eval]) ?_)
   rw[x4.2.2.1]
   show WpR Tryz.prog .ret _ (a3.put (some 2) (.slice none 0 0)) w
   exact fun b _ _=>eU (wpIn_ret (Jd (w:=w) (n:=0) (vs:=[]) (v':=.slice none 0 0) (show (a3.put (some 2) (.slice none 0 0)).defers=[] from d3) (aQ a3 2 _ (by omega)) ⟨_,rfl,World.ownsRow_nil w 0 g8 8,Below.refl _ _,fun b e=>by cases e⟩))
  ·have hr:=x6 w ad n c
   refine aZ oo.1 oo.2.1 (fL (x:=.bool false) (w':=w) (by
    unfold execOp
    rw[oo.2.2.2]
    simp only[q2,hcn]
    rw[Sem.run_bind,hr]; rfl) ?_)
   rw[oo.2.2.1]
   have p3:(a2.put (some 4) (.bool false)).tmps.getD 0 Go.undef=.slice (some ad) n c:=(lS a2 4 _ (by decide)).trans p2
   have q3:(a2.put (some 4) (.bool false)).eval (.tmp 4)=.bool false:=aQ a2 4 _ (by omega)
   have z3:(a2.put (some 4) (.bool false)).tmps.size=8:=by rw[cQ]; exact z2
   have d3:(a2.put (some 4) (.bool false)).defers=[]:=d2
   generalize a2.put (some 4) (.bool false)=a3 at *
   refine lR (t:=false) q3 (xW ?_)
   show WpR Tryz.prog (.seq (.region 3 cl3 false) .ret) _ a3 w
   refine di (cL ?_)
   rw[x5.2.2.2.2]
   show wpOpsIn (FW none) 0 Tryz.prog cl3 _ [0,1,2,3] a3 w
   refine aZ x5.1 x5.2.1 (fL (x:=.slice (some ⟨w.heap.size,0,none⟩) 0 0) (w':=w.alloc (.cells #[] g8)) (by simp[execOp,x5.2.2.2.1,Qu,Result.andThen]) ?_)
   rw[x5.2.2.1]
   have p4:(a3.put (some 5) (.slice (some ⟨w.heap.size,0,none⟩) 0 0)).tmps.getD 0 Go.undef=.slice (some ad) n c:=(lS a3 5 _ (by decide)).trans p3
   have q4:(a3.put (some 5) (.slice (some ⟨w.heap.size,0,none⟩) 0 0)).tmps.getD 5 Go.undef=.slice (some ⟨w.heap.size,0,none⟩) 0 0:=aQ a3 5 _ (by omega)
   have z4:(a3.put (some 5) (.slice (some ⟨w.heap.size,0,none⟩) 0 0)).tmps.size=8:=by rw[cQ]; exact z3
   have d4:(a3.put (some 5) (.slice (some ⟨w.heap.size,0,none⟩) 0 0)).defers=[]:=d3
   generalize a3.put (some 5) (.slice (some ⟨w.heap.size,0,none⟩) 0 0)=a4 at *
   have e4:a4.eval (.tmp 0)=.slice (some ad) n c:=p4
   refine aZ DC.1 DC.2.1 (fL (x:=.slice (some ad) n c) (w':=w.alloc (.cells #[] g8)) (by simp[execOp,DC.2.2.2,e4]) ?_)
   rw[DC.2.2.1]
   have q5:(a4.put (some 6) (.slice (some ad) n c)).eval (.tmp 5)=.slice (some ⟨w.heap.size,0,none⟩) 0 0:=(lS a4 6 _ (by decide)).trans q4
   have q6:(a4.put (some 6) (.slice (some ad) n c)).eval (.tmp 6)=.slice (some ad) n c:=aQ a4 6 _ (by omega)
   have z5:(a4.put (some 6) (.slice (some ad) n c)).tmps.size=8:=by rw[cQ]; exact z4
   have d5:(a4.put (some 6) (.slice (some ad) n c)).defers=[]:=d4
   generalize a4.put (some 6) (.slice (some ad) n c)=a5 at *
   have hbelow:Below w.heap.size w (w.alloc (.cells #[] g8)):=⟨rfl,rfl,rfl,by show w.heap.size≤(w.heap.push _).size; rw[Array.size_push]; omega,fun k hk=>heap_alloc_old w _ hk⟩
   obtain⟨v',w',r1,r2,r3,r4⟩:=qD (P:=Tryz.prog) (T:=tab) (w:=w.alloc (.cells #[] g8)) bP nh (dj cl3 2).type g8 (by kernel_rfl) (sz:=8) (by kernel_rfl) (by decide) (.slice (some ⟨w.heap.size,0,none⟩) 0 0) 0 [] (World.ownsRow_made w #[] 0 (Nat.zero_le _) (by decide) rfl) ad n c vs hlen (fun j u hu=>by
     have h:=hcell j u hu
     have hb:(ad.add j).block=ad.block:=by unfold Addr.add; split<;>rfl
     exact (World.cell?_of_block (heap_alloc_old w _ (by rw[hb]; exact h.2))).trans h.1) h1 (.agg [.int .i64 0,.int .i64 0,.int .i64 0,.int .i64 0,.int .i64 0,.int .i64 0,.int .i64 0,.bool false]) (by kernel_rfl) ⟨by decide,by decide⟩ (by
     have:tab.bytes g8=64:=by kernel_rfl
     rw[this]; decide) (by
     have:tab.bytes g8=64:=by kernel_rfl
     rw[this]; simp only[room]; omega)
   rw[Nat.zero_add,List.nil_append] at r2
   have ev:#[a5.eval (.tmp 5),a5.eval (.tmp 6)]=#[.slice (some ⟨w.heap.size,0,none⟩) 0 0,.slice (some ad) n c]:=by rw[q5,q6]
   refine aZ DD.1 DD.2.1 (fL (x:=v') (w':=w') (by
    have hrun:(Builtin.append_ #[nh,nh] (dj cl3 2).type #[a5.eval (.tmp 5),a5.eval (.tmp 6)]).run Tryz.prog (w.alloc (.cells #[] g8))=.ok v' w':=by rw[ev]; exact r1
    simp[execOp,DD.2.2.2,resolve,invoke,builtin,hrun]) ?_)
   rw[DD.2.2.1]
   have q7:(a5.put (some 7) v').eval (.tmp 7)=v':=aQ a5 7 _ (by omega)
   have z6:(a5.put (some 7) v').tmps.size=8:=by rw[cQ]; exact z5
   have d6:(a5.put (some 7) v').defers=[]:=d5
   generalize a5.put (some 7) v'=a6 at *
   refine aZ DE.1 DE.2.1 (fL (x:=v') (w':=w') (by simp[execOp,DE.2.2.2,q7]) ?_)
   rw[DE.2.2.1]
   show WpR Tryz.prog .ret _ (a6.put (some 2) v') w'
   have hsz1:(w.alloc (.cells #[] g8)).heap.size=w.heap.size+1:=by show (w.heap.push _).size=_; rw[Array.size_push]
   refine fun b _ _=>eU (wpIn_ret (Jd (v':=v') (show (a6.put (some 2) v').defers=[] from d6) (aQ a6 2 _ (by omega)) ⟨_,rfl,r2,⟨r3.os,r3.tape,r3.output,by have:=r3.size; omega,fun k hk=>(r3.block k (by omega) fun e=>by
    have:k=w.heap.size:=by simpa[Value.ownBlock] using e
    omega).trans (heap_alloc_old w _ hk)⟩,fun b e=>?_⟩))
   rcases r4 with h|h
   ·rw[h] at e
    have:w.heap.size=b:=by simpa[Value.ownBlock] using e
    omega
   ·rw[h] at e
    cases e
    omega
 exact main b hfn hbr
theorem Qv (cv:Cv) (caps:List AVal):CvAt Tryz.prog (clX cv) (.fn 89 caps) where
 nat:=fun α args h k=>by
  unfold clX
  split
  ·split
   ·rw[ak]; rfl
   ·rfl
  ·rfl
 ok:=fun args h x u h1 hk K g w fv cargs s hv hlen hargs=>by
  unfold clX at hk
  split at hk
  case h_2=>cases hk
  rename_i f l hcaps
  split at hk
  case isFalse=>cases hk
  cases hc:jZ (X:=BdI) l
  ·rw[hc] at hk; cases hk
  rw[hc] at hk
  cases hk
  cases hcaps
  have hl:List.length (α:=BdI) l≤100:=of_decide_eq_true hc
  cases hv with
  |fn _ _ arr ha1 ha2=>
   have ha0:arr=#[]:=Array.eq_empty_of_size_eq_zero (by rw[←ha1]; rfl)
   subst ha0
   refine .inl ⟨_,#[],rfl,fun w=>by kernel_rfl,?_⟩
   rw[Array.append_empty]
   obtain⟨cl⟩:=cargs
   match cl,hlen with
   | [z],_=>
     have hz:Rep h g w (.ro pW l) z:=hargs 0 _ z rfl rfl
     obtain⟨p,c,news,e1,e2,e3,e4,e5,e6⟩:=yL s hz (e:=pW) (by decide) rfl
     have hcall:=A8 (w:=w) (x:=z) (n:=List.length (α:=BdI) l) (vs:=news) hl e2 e6 (by
      cases p with
      |none=>
       obtain⟨h1,h2⟩:=e3 rfl
       refine .inl ⟨by rw[e1,h1,h2]; rfl,by rw[h1]; rfl,List.eq_nil_of_length_eq_zero (by rw[e2,h1]; rfl)⟩
      |some ad=>
       refine .inr ⟨ad,c,e1,fun j u hu=>⟨e4 ad rfl j u hu,?_⟩⟩
       have:=World.block_lt_of_cell? w (ad.add j) (e4 ad rfl j u hu)
       have hb:(ad.add j).block=ad.block:=by unfold Addr.add; split<;>rfl
       rwa [hb] at this)
     refine hcall.mono fun e w' he=>?_
     obtain⟨v',rfl,hown,hb,hnew⟩:=he
     have l1:Le K h g w (h++[DA l]) (g.at h.length v') w':=gI s (DA l) v' hb
     have hown1:∀n,an v'=some n→v'.ownBlock=some n:=fun n hn=>by
      rcases hown.2 with ⟨h1,_⟩|⟨_,_,_,h1,_⟩<;>rw[h1] at hn ⊢<;>exact hn
     have s1:=s.grow (DA l) v' l1 (fun i n hi hn=>hb.block n (s.sep i n hi hn).2.2) ((aU (e:=pW) (by decide)).2 ⟨news,by rw[g.at_same]; exact hown,fun n y j cc hy hcc=>by
      obtain⟨u,h1,h2⟩:=e5 n y j cc hy hcc
      exact⟨u,h1,fV h2 (FJ y cc (List.mem_of_getElem? hcc))⟩⟩) (fun n hn=>by
      have h1:=hnew n (hown1 n hn)
      have h2:=(hown.lt n (hown1 n hn)).2
      exact⟨⟨fun hk=>by have:=s.klow n hk; omega,fun hm=>by have:=s.low n hm; omega,h2⟩,fun i hi hin=>by have:=(s.sep i n hi hin).2.2; omega⟩)
     refine⟨_,s1,l1,v',rfl,.own _ _ (cm.of (List.getElem?_concat_length ..) (by simp)) ?_ fun wr t' e' xs' hx=>(g.at_same _ _).symm⟩
     rcases hown.2 with ⟨h1,_⟩|⟨_,_,_,h1,_⟩<;>rw[h1]<;>rfl
noncomputable def Je:FuncId→Option Fsp:=fun g=>
 if g=50 then some M6 else
 Dt g
theorem x7:aD Je:=
 ae M7 <|
 pY
noncomputable def FL:FuncId→Option (Cv→Cv):=fun g=>
 if g=89 then some clX else HE g
theorem lT:jb FL:=ea (fun cv _ caps=>Qv cv caps) mR
def enZ {α:Type} (C:Bool) (o:ShO) (k:AOut→Option α):Option α:=
 bif !(pX C o==0) then k (ktmis (pX C o)) else bif !(bz (lP C o)&&!(lP C o).any mvg) then k (ktmis 9) else k (.ret (.ro (.recd (.cons (.int .i64) (.cons (.int .i64) (.cons (.recd (.cons (.recd (.cons (.int .i64) (.cons (.int .i64) .nil))) (.cons (.recd (.cons (.int .i64) (.cons (.int .i64) .nil))) (.cons (.int .i64) .nil)))) (.cons .bool .nil))))) (lP C o)))
abbrev EnS:=Int × Int × Int × Int × Int × Int × Int × Int × List BrI × Int × Int × Unit
abbrev enL (l:List BdI) (t n x y u v s p q m:Int):List BdI:=l++[thB t n x y u v s p q m]
noncomputable def enK {α:Type} (cx cy sd w h:Int) (pb po:List Int) (fl ke sw be we:Int) (el:Int) (l:List BdI) (m:Int) (k:AOut→Option α) (t n x y u v s:Int) (b:List BrI) (p q:Int):Option α:=
 bif jZ l then
  bif !(dw [thB t n x y u v s p q m]==0) then k (ktmis 4) else
  if (l.length+[thB t n x y u v s p q m].length)*64≤room then
   enZ (A2 cx cy sd w h pb po fl ke sw be we (enL l t n x y u v s p q m) b (IntKind.i64.wrap (((enL l t n x y u v s p q m).length:Int)-1)) el 6000) (shP (jB cx cy sd w h pb po fl ke sw be we b (IntKind.i64.wrap (((enL l t n x y u v s p q m).length:Int)-1)) el) (Int.toNat 6000) 0 (enL l t n x y u v s p q m) []) k
  else none
 else none
noncomputable def enF {α:Type} (cx cy sd w h:Int) (pb po:List Int) (fl ke sw be we:Int) (el:Int) (l:List BdI) (m:Int) (k:AOut→Option α) (z:EnS):Option (LRes EnS α):=
 bif decide (z.1<(l.length:Int)) then
  if 0≤z.1∧z.1<(l.length:Int) then
   bif (l.getD z.1.toNat bdD).1==z.2.1 then
    bif (l.getD z.1.toNat bdD).2.1==z.2.2.1 then
     finL (bif !!decide (z.1≥0) then k (ktmis 9) else enK cx cy sd w h pb po fl ke sw be we el l m k z.2.1 z.2.2.1 z.2.2.2.1 z.2.2.2.2.1 z.2.2.2.2.2.1 z.2.2.2.2.2.2.1 z.2.2.2.2.2.2.2.1 z.2.2.2.2.2.2.2.2.1 z.2.2.2.2.2.2.2.2.2.1 z.2.2.2.2.2.2.2.2.2.2.1)
    else some (.cont (IntKind.i64.wrap (z.1+1),z.2.1,z.2.2.1,z.2.2.2.1,z.2.2.2.2.1,z.2.2.2.2.2.1,z.2.2.2.2.2.2.1,z.2.2.2.2.2.2.2.1,z.2.2.2.2.2.2.2.2.1,z.2.2.2.2.2.2.2.2.2.1,z.2.2.2.2.2.2.2.2.2.2.1,()))
   else some (.cont (IntKind.i64.wrap (z.1+1),z.2.1,z.2.2.1,z.2.2.2.1,z.2.2.2.2.1,z.2.2.2.2.2.1,z.2.2.2.2.2.2.1,z.2.2.2.2.2.2.2.1,z.2.2.2.2.2.2.2.2.1,z.2.2.2.2.2.2.2.2.2.1,z.2.2.2.2.2.2.2.2.2.2.1,()))
  else none
 else some (.brk 0 (z.1,z.2.1,z.2.2.1,z.2.2.2.1,z.2.2.2.2.1,z.2.2.2.2.2.1,z.2.2.2.2.2.2.1,z.2.2.2.2.2.2.2.1,z.2.2.2.2.2.2.2.2.1,z.2.2.2.2.2.2.2.2.2.1,z.2.2.2.2.2.2.2.2.2.2.1,()))
set_option maxRecDepth 100000 in
theorem Jf (N n0:Nat) (α:Type) (cx cy sd w h:Int) (pb po:List Int) (fl ke sw be we:Int) (el:Int) (l:List BdI) (t n x y u v s:Int) (b:List BrI) (p q:Int) (m:Int) (k:AOut→Option α):am real tab ((twY Je FL).env real tab N (n0+12)) N Tryz.f39 α [.agg [.int .i64 cx,.int .i64 cy,.int .i64 sd,.int .i64 w,.int .i64 h,.ro (.int .i64) pb,.ro (.int .i64) po,.int .i64 fl,.int .i64 ke,.int .i64 sw,.int .i64 be,.int .i64 we,.int .i64 el,.ro (.recd (.cons (.int .i64) (.cons (.int .i64) (.cons (.recd (.cons (.recd (.cons (.int .i64) (.cons (.int .i64) .nil))) (.cons (.recd (.cons (.int .i64) (.cons (.int .i64) .nil))) (.cons (.int .i64) .nil)))) (.cons .bool .nil))))) l],.agg [.int .i64 t,.int .i64 n,.int .i64 x,.int .i64 y,.int .i64 u,.int .i64 v,.int .i64 s,.ro (.recd (.cons (.int .i64) (.cons (.int .i64) (.cons (.int .i64) .nil)))) b,.int .i64 p,.int .i64 q],.int .i64 m] k =
 bif bz l&&!l.any mvg then bif decide ((l.length:Int)<16) then ag (af N (enF cx cy sd w h pb po fl ke sw be we el l m k) (0,t,n,x,y,u,v,s,b,p,q,())) fun id
 z=>if id=0 then enK cx cy sd w h pb po fl ke sw be we el l m k z.2.1 z.2.2.1 z.2.2.2.1 z.2.2.2.2.1 z.2.2.2.2.2.1 z.2.2.2.2.2.2.1 z.2.2.2.2.2.2.2.1 z.2.2.2.2.2.2.2.2.1
 z.2.2.2.2.2.2.2.2.2.1 z.2.2.2.2.2.2.2.2.2.2.1 else none else k (ktmis 9) else k (ktmis 9):=by kernel_rfl
def M8 (t n:Int) (l:List BdI):Bool:=l.any fun c=>c.1==t&&c.2.1==n
def enB (l:List BdI) (t n:Int):Bool:=(bz l&&!l.any mvg)&&(decide ((l.length:Int)<16)&&!M8 t n l)
noncomputable def enC (cx cy sd w h:Int) (pb po:List Int) (fl ke sw be we:Int) (el:Int) (l:List BdI) (t n x y u v s:Int) (b:List BrI) (p q:Int) (m:Int):Bool:=A2 cx cy sd w h pb po fl ke sw be we (enL l t n x y u v s p q m) b (l.length:Int) el 6000
noncomputable def enO (cx cy sd w h:Int) (pb po:List Int) (fl ke sw be we:Int) (el:Int) (l:List BdI) (t n x y u v s:Int) (b:List BrI) (p q:Int) (m:Int):ShO:=shP (jB cx cy sd w h pb po fl ke sw be we b (l.length:Int) el) 6000 0 (enL l t n x y u v s p q m) []
noncomputable def enE (cx cy sd w h:Int) (pb po:List Int) (fl ke sw be we:Int) (el:Int) (l:List BdI) (t n x y u v s:Int) (b:List BrI) (p q:Int) (m:Int):Int:=
 bif enB l t n then bif dw [thB t n x y u v s p q m]==0 then
  bif pX (enC cx cy sd w h pb po fl ke sw be we el l t n x y u v s b p q m) (enO cx cy sd w h pb po fl ke sw be we el l t n x y u v s b p q m)==0 then bif bz (lP (enC cx cy sd w h pb po fl ke sw be we el l t n x y u v s b p q m) (enO cx cy sd w h pb po fl ke sw be we el l t n x y u v s b p q m))&&!(lP (enC cx cy sd w h pb po fl ke sw be we el l t n x y u v s b p q m) (enO cx cy sd w h pb po fl ke sw be we el l t n x y u v s b p q m)).any mvg then 0 else 9
  else pX (enC cx cy sd w h pb po fl ke sw be we el l t n x y u v s b p q m) (enO cx cy sd w h pb po fl ke sw be we el l t n x y u v s b p q m)
 else 4 else 9
noncomputable def enR (cx cy sd w h:Int) (pb po:List Int) (fl ke sw be we:Int) (el:Int) (l:List BdI) (t n x y u v s:Int) (b:List BrI) (p q:Int) (m:Int):List BdI:=lP (enC cx cy sd w h pb po fl ke sw be we el l t n x y u v s b p q m) (enO cx cy sd w h pb po fl ke sw be we el l t n x y u v s b p q m)
theorem Qw {α:Type} (C:Bool) (o:ShO) (k:AOut→Option α):enZ C o k=bif (bif pX C o==0 then (bif bz (lP C o)&&!(lP C o).any mvg then (0:Int) else 9) else pX C o)==0 then k (.ret (.ro (.recd (.cons (.int .i64) (.cons (.int .i64) (.cons (.recd (.cons (.recd (.cons (.int .i64) (.cons (.int .i64) .nil))) (.cons (.recd (.cons (.int .i64) (.cons (.int .i64) .nil))) (.cons (.int .i64) .nil)))) (.cons .bool .nil))))) (lP C o))) else k (ktmis (bif pX C o==0 then (bif bz (lP C o)&&!(lP C o).any mvg then (0:Int) else 9) else pX C o)):=by
 unfold enZ
 cases h:pX C o==0
 ·rw[Bool.not_false,cond_true,cond_false,h]; rfl
 ·cases bz (lP C o)&&!(lP C o).any mvg<;>rfl
theorem Qx {α:Type} (cx cy sd w h:Int) (pb po:List Int) (fl ke sw be we:Int) (el:Int) (l:List BdI) (m:Int) (k:AOut→Option α) (t n x y u v s:Int) (b:List BrI) (p q:Int) (hl:l.length≤16) (hb:enB l t n=true):enK cx cy sd w h pb po fl ke sw be we el l m k t n x y u v s b p q=bif enE cx cy sd w h pb po fl ke sw be we el l t n x y u v s b p q m==0 then k (.ret (.ro (.recd (.cons (.int .i64) (.cons (.int .i64) (.cons (.recd (.cons (.recd (.cons (.int .i64) (.cons (.int .i64) .nil))) (.cons (.recd (.cons (.int .i64) (.cons (.int .i64) .nil))) (.cons (.int .i64) .nil)))) (.cons .bool .nil))))) (enR cx cy sd w h pb po fl ke sw be we el l t n x y u v s b p q m))) else k (ktmis (enE cx cy sd w h pb po fl ke sw be we el l t n x y u v s b p q m)):=by
 unfold enK enE
 rw[hb,cond_true,show jZ l=true from decide_eq_true (by omega),cond_true]
 cases hs:dw [thB t n x y u v s p q m]==0
 ·rfl
 ·rw[Bool.not_true,cond_false,cond_true,if_pos (by simp only[List.length_singleton,room]; omega)]
  have ew:IntKind.i64.wrap (((enL l t n x y u v s p q m).length:Int)-1)=(l.length:Int):=by
   rw[List.length_append,List.length_singleton,IntKind.wrap_i64]; omega
  rw[ew]
  exact Qw _ _ k
theorem FM {α:Type} (cx cy sd w h:Int) (pb po:List Int) (fl ke sw be we:Int) (el:Int) (l:List BdI) (t n x y u v s:Int) (b:List BrI) (p q:Int) (m:Int) (k:AOut→Option α) :
  (bif bz l&&!l.any mvg then bif decide ((l.length:Int)<16) then
  ag (af (l.length+1) (enF cx cy sd w h pb po fl ke sw be we el l m k) (0,t,n,x,y,u,v,s,b,p,q,())) fun id z=>if id=0 then enK cx cy sd w h pb po fl ke sw be we el l m k z.2.1 z.2.2.1 z.2.2.2.1 z.2.2.2.2.1 z.2.2.2.2.2.1 z.2.2.2.2.2.2.1 z.2.2.2.2.2.2.2.1 z.2.2.2.2.2.2.2.2.1 z.2.2.2.2.2.2.2.2.2.1 z.2.2.2.2.2.2.2.2.2.2.1 else none
 else k (ktmis 9) else k (ktmis 9))=bif enE cx cy sd w h pb po fl ke sw be we el l t n x y u v s b p q m==0 then k (.ret (.ro (.recd (.cons (.int .i64) (.cons (.int .i64) (.cons (.recd (.cons (.recd (.cons (.int .i64) (.cons (.int .i64) .nil))) (.cons (.recd (.cons (.int .i64) (.cons (.int .i64) .nil))) (.cons (.int .i64) .nil)))) (.cons .bool .nil))))) (enR cx cy sd w h pb po fl ke sw be we el l t n x y u v s b p q m))) else k (ktmis (enE cx cy sd w h pb po fl ke sw be we el l t n x y u v s b p q m)):=by
 have no:enB l t n=false→(bif enE cx cy sd w h pb po fl ke sw be we el l t n x y u v s b p q m==0 then k (.ret (.ro (.recd (.cons (.int .i64) (.cons (.int .i64) (.cons (.recd (.cons (.recd (.cons (.int .i64) (.cons (.int .i64) .nil))) (.cons (.recd (.cons (.int .i64) (.cons (.int .i64) .nil))) (.cons (.int .i64) .nil)))) (.cons .bool .nil))))) (enR cx cy sd w h pb po fl ke sw be we el l t n x y u v s b p q m))) else k (ktmis (enE cx cy sd w h pb po fl ke sw be we el l t n x y u v s b p q m)))=k (ktmis 9):=fun h=>by unfold enE; rw[h]; rfl
 cases h1:bz l&&!l.any mvg
 ·rw[no (by unfold enB; rw[h1]; rfl)]; rfl
 ·cases h2:decide ((l.length:Int)<16)
  ·rw[no (by unfold enB; rw[h1,h2]; rfl)]; rfl
  ·have hl:(l.length:Int)<16:=of_decide_eq_true h2
   have hmx:l.length≤maxLen:=by have:maxLen=9223372036854775807:=rfl; omega
   rw[cond_true,cond_true]
   refine (eD (f:=enF cx cy sd w h pb po fl ke sw be we el l m k) (fun i:Nat=>((i:Int),t,n,x,y,u,v,s,b,p,q,())) l.length (fun i=>(l.getD i bdD).1==t&&(l.getD i bdD).2.1==n) (k (ktmis 9)) (fun i hi=>?_) (y:=((l.length:Int),t,n,x,y,u,v,s,b,p,q,())) (b:=0) ?_ (Nat.le_refl _)).trans ?_
   ·unfold enF
    simp only[aR hi,cond_true,aH hi,if_pos,and_self,Int.toNat_natCast,ao hi hmx,show ((i:Int)≥0)=True from eq_true (by omega),decide_true]
    cases (l.getD i bdD).1==t
    ·rfl
    ·cases (l.getD i bdD).2.1==n<;>rfl
   ·unfold enF
    simp only[ap,cond_false]
   ·have ha:(List.range l.length).any (fun i=>(l.getD i bdD).1==t&&(l.getD i bdD).2.1==n)=M8 t n l:=by
     unfold M8
     rw[Bool.eq_iff_iff,List.any_eq_true,List.any_eq_true]
     constructor
     ·rintro⟨i,hi,h⟩
      have hi:=List.mem_range.1 hi
      rw[List.getD_eq_getElem?_getD,List.getElem?_eq_getElem hi] at h
      exact⟨l[i],List.getElem_mem hi,h⟩
     ·rintro⟨c,hc,h⟩
      obtain⟨i,hi,rfl⟩:=List.mem_iff_getElem.1 hc
      refine⟨i,List.mem_range.2 hi,?_⟩
      rw[List.getD_eq_getElem?_getD,List.getElem?_eq_getElem hi]; exact h
    rw[ha]
    cases h3:M8 t n l
    ·rw[cond_false,if_pos rfl]
     exact Qx cx cy sd w h pb po fl ke sw be we el l m k t n x y u v s b p q (by omega) (by unfold enB; rw[h1,h2,h3]; rfl)
    ·rw[no (by unfold enB; rw[h1,h2,h3]; rfl)]; rfl
noncomputable def M9:Fsp:=fun _ args k=>match args with
 | [.agg [.int .i64 cx,.int .i64 cy,.int .i64 sd,.int .i64 w,.int .i64 h,.ro (.int .i64) pb,.ro (.int .i64) po,.int .i64 fl,.int .i64 ke,.int .i64 sw,.int .i64 be,.int .i64 we,.int .i64 el,.ro (.recd (.cons (.int .i64) (.cons (.int .i64) (.cons (.recd (.cons (.recd (.cons (.int .i64) (.cons (.int .i64) .nil))) (.cons (.recd (.cons (.int .i64) (.cons (.int .i64) .nil))) (.cons (.int .i64) .nil)))) (.cons .bool .nil))))) l],.agg [.int .i64 t,.int .i64 n,.int .i64 x,.int .i64 y,.int .i64 u,.int .i64 v,.int .i64 s,.ro (.recd (.cons (.int .i64) (.cons (.int .i64) (.cons (.int .i64) .nil)))) b,.int .i64 p,.int .i64 q],.int .i64 m]=>bif enE cx cy sd w h pb po fl ke sw be we el l t n x y u v s b p q m==0 then k (.ret (.ro (.recd (.cons (.int .i64) (.cons (.int .i64) (.cons (.recd (.cons (.recd (.cons (.int .i64) (.cons (.int .i64) .nil))) (.cons (.recd (.cons (.int .i64) (.cons (.int .i64) .nil))) (.cons (.int .i64) .nil)))) (.cons .bool .nil))))) (enR cx cy sd w h pb po fl ke sw be we el l t n x y u v s b p q m))) else k (ktmis (enE cx cy sd w h pb po fl ke sw be we el l t n x y u v s b p q m))
 |_=>none
theorem Na:FspOk Tryz.prog 39 M9:=aq x7 lT ⟨Tryz.func39,fun _ _=>by kernel_rfl⟩ (by intro α args k; unfold M9; split<;>simp only[ak,Option.bind_some,Option.bind_none]) fun args out hSm hEq=>by
 unfold M9 at hEq
 split at hEq
 ·rename_i cx cy sd w h pb po fl ke sw be we el l t n x y u v s b p q m
  exact⟨List.length (α:=BdI) l+1,12,((Jf (List.length (α:=BdI) l+1) 0 AOut cx cy sd w h pb po fl ke sw be we el l t n x y u v s b p q m some).trans (FM cx cy sd w h pb po fl ke sw be we el l t n x y u v s b p q m some)).trans hEq⟩
 ·cases hEq
def FN (k:Sh):Prop:=∀a b:k.ty,k.eqb a b=true↔a=b
theorem p8 {k v:Sh} (he:FN k) (q q':k.ty) (y:v.ty):∀m,bF k v q (c8 k v q' y m)=bif k.eqb q q' then some y else bF k v q m
 | []=>by rw[c8,bF]; rfl
 |p::r=>by
  rw[c8]
  cases h:k.eqb q' p.1
  ·rw[cond_false,bF,bF,p8 he q q' y r]
   cases h2:k.eqb q p.1
   ·rfl
   ·have:k.eqb q q'=false:=by
     cases h3:k.eqb q q'
     ·rfl
     ·rw[←(he _ _).1 h3,h2] at h; cases h
    rw[this]; rfl
  ·rw[cond_true,bF,bF]
   have e:=(he _ _).1 h
   subst e
   cases k.eqb q p.1<;>rfl
def fu (k v:Sh) (m:List (k.ty × v.ty)):List k.ty:=m.map (·.1)
theorem kX {k v:Sh} (he:FN k) (q:k.ty):∀m:List (k.ty × v.ty),(bF k v q m).isSome=true↔q∈fu k v m
 | []=>by simp[bF,fu]
 |p::r=>by
  rw[bF]
  cases h:k.eqb q p.1
  ·rw[cond_false,kX he q r]
   have:q≠p.1:=fun e=>by rw[(he _ _).2 e] at h; cases h
   simp[fu,this]
  ·simp[fu,(he _ _).1 h]
theorem kY {k v:Sh} (he:FN k) (q:k.ty) (y:v.ty):∀m:List (k.ty × v.ty),fu k v (c8 k v q y m)=bif (bF k v q m).isSome then fu k v m else fu k v m++[q]
 | []=>rfl
 |p::r=>by
  rw[c8,bF]
  cases h:k.eqb q p.1
  ·simp only[cond_false]
   show p.1::fu k v (c8 k v q y r)=_
   rw[kY he q y r]
   cases (bF k v q r).isSome<;>rfl
  ·have e:=(he _ _).1 h
   simp only[cond_true,Option.isSome_some]
   show q::r.map (·.1)=p.1::r.map (·.1)
   rw[e]
theorem vf {k v:Sh} (he:FN k) (q:k.ty) (y:v.ty) {m:List (k.ty × v.ty)} (h:(fu k v m).Nodup):(fu k v (c8 k v q y m)).Nodup:=by
 rw[kY he]
 cases hs:(bF k v q m).isSome
 ·rw[cond_false,List.nodup_append]
  refine⟨h,by simp,fun a ha b hb=>?_⟩
  simp at hb
  subst hb
  rintro rfl
  rw[(kX he a m).2 ha] at hs; cases hs
 ·exact h
theorem A9 {k v:Sh} (he:FN k) (q q':k.ty) (y:v.ty) (m:List (k.ty × v.ty)):q'∈fu k v (c8 k v q y m)↔q'=q∨q'∈fu k v m:=by
 rw[kY he]
 cases hs:(bF k v q m).isSome
 ·simp[or_comm]
 ·have:=(kX he q m).1 hs
  exact⟨.inr,fun h=>h.elim (fun e=>e▸this) id⟩
abbrev bB:Sh:=.recd (.cons (.int .i64) (.cons (.int .i64) .nil))
theorem Ba:FN bB:=fun a b=>by
 obtain⟨a1,a2,_⟩:=a
 obtain⟨b1,b2,_⟩:=b
 show (@BEq.beq Int _ a1 b1&&(@BEq.beq Int _ a2 b2&&true))=true↔_
 rw[Bool.and_true,Bool.and_eq_true,@beq_iff_eq Int _ _ a1 b1,@beq_iff_eq Int _ _ a2 b2]
 exact⟨fun h=>by rw[h.1,h.2]; rfl,fun h=>by cases h; exact⟨rfl,rfl⟩⟩
noncomputable def FO:FuncId→Option Fsp:=fun _=>none
theorem o9:aD FO:=BP
noncomputable def de:FuncId→Option (Cv→Cv):=fun _=>none
theorem a8:jb de:=BQ
/-! Stones. -/
abbrev SnI:=Int × Int × (Int × Int × Unit) × Unit
abbrev SnI.x (s:SnI):Int:=s.2.2.1.1
abbrev SnI.y (s:SnI):Int:=s.2.2.1.2.1
def snD:SnI:=(0,0,(0,0,()),())
def snV (s:SnI):Bool:=(decide (-6553600000≤s.x)&&decide (s.x≤6553600000))&&((decide (-6553600000≤s.y)&&decide (s.y≤6553600000))&&((decide (0≤s.1)&&decide (s.1≤1))&&(decide (0≤s.2.1)&&decide (s.2.1≤7))))
def snN (a b:SnI):Bool:=a.1==b.1&&a.2.1==b.2.1
def p9 (l:List SnI) (i:Nat):Bool:=!snV (l.getD i snD) || (List.range i).any fun k=>snN (l.getD k snD) (l.getD i snD)
def eG (l:List SnI):Bool:=decide (l.length≤16)&&!((List.range l.length).any (p9 l))
abbrev NmM:=List ((Int × Int × Unit) × Bool)
def mcF {α:Type} (l:List SnI) (R:Option α) (x:Int × NmM × Unit):Option (LRes (Int × NmM × Unit) α):=
 bif decide (x.1<(l.length:Int)) then
  if 0≤x.1∧x.1<(l.length:Int) then
   bif decide (-6553600000≤(l.getD x.1.toNat snD).x) then
    bif decide ((l.getD x.1.toNat snD).x≤6553600000) then
     bif decide (-6553600000≤(l.getD x.1.toNat snD).y) then
      bif !decide ((l.getD x.1.toNat snD).y≤6553600000) then finL R
      else bif decide (0≤(l.getD x.1.toNat snD).1) then
       bif !decide ((l.getD x.1.toNat snD).1≤1) then finL R
       else bif decide (0≤(l.getD x.1.toNat snD).2.1) then
        bif !decide ((l.getD x.1.toNat snD).2.1≤7) then finL R
        else bif (bF bB .bool ((l.getD x.1.toNat snD).1,(l.getD x.1.toNat snD).2.1,()) x.2.1).getD false then finL R
        else some (.cont (IntKind.i64.wrap (x.1+1),c8 bB .bool ((l.getD x.1.toNat snD).1,(l.getD x.1.toNat snD).2.1,()) true x.2.1,()))
       else finL R
      else finL R
     else finL R
    else finL R
   else finL R
  else none
 else some (.brk 0 (x.1,x.2.1,()))
set_option maxRecDepth 100000 in
theorem Jg (N n0:Nat) (α:Type) (l:List SnI) (k:AOut→Option α):am real tab ((twY FO de).env real tab N (n0+12)) N Tryz.f132 α [.ro (.recd (.cons (.int .i64) (.cons (.int .i64) (.cons (.recd (.cons (.int .i64) (.cons (.int .i64) .nil))) .nil)))) l] k =
 bif decide ((l.length:Int)>16) then k (i1 2) else ag (af N (mcF l (k (i1 2))) (0,[],())) fun id _=>if id=0 then k (i1 0) else none:=by kernel_rfl
def nmM (l:List SnI):Nat→NmM
 |0=>[]
 |i+1=>c8 bB .bool ((l.getD i snD).1,(l.getD i snD).2.1,()) true (nmM l i)
theorem Jh (b:Bool) (o:Option Bool):Option.getD (bif b then some true else o) false=(b || o.getD false):=by cases b<;>rfl
theorem qa (l:List SnI) (s:SnI):∀i,(bF bB .bool (s.1,s.2.1,()) (nmM l i)).getD false=(List.range i).any fun k=>snN (l.getD k snD) s
 |0=>rfl
 |i+1=>by
  rw[nmM,List.range_succ,List.any_append]
  refine (congrArg (fun o=>Option.getD o false) (p8 (v:=.bool) Ba (s.1,s.2.1,()) ((l.getD i snD).1,(l.getD i snD).2.1,()) true (nmM l i))).trans ?_
  show Option.getD (bif bB.eqb (s.1,s.2.1,()) ((l.getD i snD).1,(l.getD i snD).2.1,()) then some true else bF bB .bool (s.1,s.2.1,()) (nmM l i)) false=_
  have e:bB.eqb (s.1,s.2.1,()) ((l.getD i snD).1,(l.getD i snD).2.1,())=snN (l.getD i snD) s:=by
   show (@BEq.beq Int _ s.1 (l.getD i snD).1&&(@BEq.beq Int _ s.2.1 (l.getD i snD).2.1&&true))=_
   unfold snN
   rw[Bool.and_true,Bool.eq_iff_iff]
   simp only[Bool.and_eq_true,beq_iff_eq]
   exact⟨fun h=>⟨h.1.symm,h.2.symm⟩,fun h=>⟨h.1.symm,h.2.symm⟩⟩
  rw[e]
  refine (Jh _ _).trans ?_
  refine (congrArg (fun q=>snN (l.getD i snD) s || q) (qa l s i)).trans ?_
  rw[Bool.or_comm]
  simp
theorem Qy {α:Type} (l:List SnI) (R:Option α) {i:Nat} (hi:i<l.length) (hl:l.length≤maxLen):mcF l R ((i:Int),nmM l i,())=bif p9 l i then finL R else some (.cont (((i+1:Nat):Int),nmM l (i+1),())):=by
 unfold mcF p9 snV
 simp only[aR hi,cond_true,aH hi,if_pos,and_self,decide_true,Int.toNat_natCast,ao hi hl,qa l (l.getD i snD) i]
 cases decide (-6553600000≤(l.getD i snD).x)
 ·rfl
 cases decide ((l.getD i snD).x≤6553600000)
 ·rfl
 cases decide (-6553600000≤(l.getD i snD).y)
 ·rfl
 cases decide ((l.getD i snD).y≤6553600000)
 ·rfl
 cases decide (0≤(l.getD i snD).1)
 ·rfl
 cases decide ((l.getD i snD).1≤1)
 ·rfl
 cases decide (0≤(l.getD i snD).2.1)
 ·rfl
 cases decide ((l.getD i snD).2.1≤7)
 ·rfl
 rfl
def ni (l:List SnI):Int:=bif eG l then 0 else 2
theorem FP {α:Type} (l:List SnI) (k:AOut→Option α):(bif decide ((l.length:Int)>16) then k (i1 2) else ag (af 20 (mcF l (k (i1 2))) (0,[],())) fun id _=>if id=0 then k (i1 0) else none)=k (i1 (ni l)):=by
 unfold ni eG
 by_cases h:l.length≤16
 ·have hmx:l.length≤maxLen:=by have:maxLen=9223372036854775807:=rfl; omega
  rw[decide_eq_false (show ¬(l.length:Int)>16 by omega),cond_false,decide_eq_true h,Bool.true_and]
  refine (eD (f:=mcF l (k (i1 2))) (fun i:Nat=>((i:Int),nmM l i,())) l.length (p9 l) (k (i1 2)) (fun i hi=>Qy l _ hi hmx) (y:=((l.length:Int),nmM l l.length,())) (b:=0) ?_ (by omega)).trans ?_
  ·unfold mcF
   simp only[ap,cond_false]
  ·cases (List.range l.length).any (p9 l)<;>rfl
 ·rw[decide_eq_true (show (l.length:Int)>16 by omega),decide_eq_false h]; rfl
theorem Nb (l:List SnI) (hs:∀qSm∈([.ro (.recd (.cons (.int .i64) (.cons (.int .i64) (.cons (.recd (.cons (.int .i64) (.cons (.int .i64) .nil))) .nil)))) l]:List AVal),Sm qSm):∃N n,∀α (k:AOut→Option α),am real tab ((twY FO de).env real tab N n) N Tryz.f132 α [.ro (.recd (.cons (.int .i64) (.cons (.int .i64) (.cons (.recd (.cons (.int .i64) (.cons (.int .i64) .nil))) .nil)))) l] k=k (i1 (ni l)):=by
 exact⟨20,12,fun α k=>(Jg 20 0 α l k).trans (FP l k)⟩
noncomputable def Nc:Fsp:=fun _ args k=>match args with
 | [.ro (.recd (.cons (.int .i64) (.cons (.int .i64) (.cons (.recd (.cons (.int .i64) (.cons (.int .i64) .nil))) .nil)))) l]=>k (i1 (ni l))
 |_=>none
theorem Nd:FspOk Tryz.prog 132 Nc:=aq o9 a8 ⟨Tryz.func132,fun _ _=>by kernel_rfl⟩ (by intro α args k; unfold Nc; split<;>rfl) fun args out hSm hEq=>by
 unfold Nc at hEq
 split at hEq
 ·rename_i l
  obtain⟨N,n,e⟩:=Nb l hSm
  exact⟨N,n,(e AOut some).trans hEq⟩
 ·cases hEq
/-! Readings. -/
abbrev RdI:=Int × Int × Int × Unit
def rdD:RdI:=(0,0,0,())
def kJ (n:Int) (r:RdI):Bool:=(decide (0≤r.1)&&decide (r.1≤n-1))&&(decide (0≤r.2.1)&&(decide (r.2.1≤r.2.2.1)&&decide (r.2.2.1≤70368744177664)))
theorem Ji (N n0:Nat) (α:Type) (a b c n:Int) (k:AOut→Option α):am real tab ((twY FO de).env real tab N (n0+12)) N Tryz.f203 α [.agg [iN a,iN b,iN c],iN n] k =
 bif decide (0≤a) then bif decide (a≤IntKind.i64.wrap (n-1)) then bif decide (0≤b) then bif decide (b≤c) then k (b1 (decide (c≤70368744177664))) else k (b1 false) else k
 (b1 false) else k (b1 false) else k (b1 false):=by kernel_rfl
def nB (n:Int):Bool:=decide (0≤n)&&decide (n≤16)
noncomputable def Nf:Fsp:=fun _ args k=>match args with
 | [.agg [.int .i64 a,.int .i64 b,.int .i64 c],.int .i64 n]=>bif nB n then k (b1 (kJ n (a,b,c,()))) else none
 |_=>none
theorem Ng:FspOk Tryz.prog 203 Nf:=aq o9 a8 ⟨Tryz.func203,fun _ _=>by kernel_rfl⟩ (by intro α args k; unfold Nf; split<;>simp only[ak,Option.bind_some,Option.bind_none]) fun args out hs h=>by
 unfold Nf at h
 split at h
 ·rename_i a b c n
  cases hn:nB n
  ·rw[hn] at h; cases h
  ·rw[hn,cond_true] at h
   refine⟨1,12,(Ji 1 0 AOut a b c n some).trans (Eq.trans ?_ h)⟩
   have hn':=ln.1 hn
   rw[aP (n-1) (by omega)]
   unfold kJ
   cases decide (0≤a)<;>cases decide (a≤n-1)<;>cases decide (0≤b)<;>cases decide (b≤c)<;>rfl
 ·cases h
noncomputable def Qz:FuncId→Option Fsp:=fun g=>
 if g=132 then some Nc else
 if g=203 then some Nf else
 FO g
theorem DF:aD Qz:=
 ae Nd <|
 ae Ng <|
 o9
theorem iP {X:Type} (l:List X) (d:X) {i:Nat} (h:i<l.length):l.take (i+1)=l.take i++[l.getD i d]:=by
 rw[List.take_add_one,List.getElem?_eq_getElem h,List.getD_eq_getElem?_getD,List.getElem?_eq_getElem h]
 rfl
abbrev RdI.lo (r:RdI):Int:=r.2.1
abbrev RdI.hi (r:RdI):Int:=r.2.2.1
def bLo (l:List RdI) (k:Nat):Int:=l.foldl (fun a r=>if r.1=(k:Int) then max a r.lo else a) 0
def bHi (l:List RdI) (k:Nat):Int:=l.foldl (fun a r=>if r.1=(k:Int) then min a r.hi else a) 70368744177664
theorem Nh (l:List RdI) (r:RdI) (k:Nat):bLo (l++[r]) k=if r.1=(k:Int) then max (bLo l k) r.lo else bLo l k:=by
 unfold bLo; rw[List.foldl_append]; rfl
theorem Ni (l:List RdI) (r:RdI) (k:Nat):bHi (l++[r]) k=if r.1=(k:Int) then min (bHi l k) r.hi else bHi l k:=by
 unfold bHi; rw[List.foldl_append]; rfl
def aW (n:Nat) (l:List RdI):List RdI:=(List.range n).map fun k:Nat=>(((k:Int),bLo l k,bHi l k,()):RdI)
theorem dA (n:Nat) (l:List RdI):(aW n l).length=n:=by simp[aW]
theorem jC (n:Nat) (l:List RdI) {k:Nat} (h:k<n):(aW n l).getD k rdD=((k:Int),bLo l k,bHi l k,()):=by
 rw[List.getD_eq_getElem?_getD,List.getElem?_eq_getElem (by rw[dA]; exact h)]
 simp[aW]
theorem Jj (n:Nat) (l:List RdI) (o:List RdI) (ho:o.length=n) (h:∀k,k<n→o.getD k rdD=((k:Int),bLo l k,bHi l k,())):o=aW n l:=by
 apply List.ext_getElem
 ·rw[ho,dA]
 ·intro k h1 h2
  have e:=h k (by omega)
  rw[List.getD_eq_getElem?_getD,List.getElem?_eq_getElem h1] at e
  refine (show o[k]=_ from e).trans ?_
  simp[aW]
def tH (o:List RdI) (r:RdI):List RdI:=o.set r.1.toNat ((o.getD r.1.toNat rdD).1,if (o.getD r.1.toNat rdD).2.1<r.2.1 then r.2.1 else (o.getD r.1.toNat rdD).2.1,(o.getD r.1.toNat rdD).2.2.1,())
def DG (o:List RdI) (r:RdI):List RdI:=(tH o r).set r.1.toNat (((tH o r).getD r.1.toNat rdD).1,((tH o r).getD r.1.toNat rdD).2.1,if r.2.2.1<(o.getD r.1.toNat rdD).2.2.1 then r.2.2.1 else (o.getD r.1.toNat rdD).2.2.1,())
theorem g9 {X:Type} (o:List X) (d v:X) (i k:Nat) (hi:i<o.length):(o.set i v).getD k d=if k=i then v else o.getD k d:=by
 rw[List.getD_eq_getElem?_getD,List.getElem?_set,List.getD_eq_getElem?_getD]
 by_cases h:i=k
 ·subst h; simp[hi]
 ·rw[if_neg h,if_neg (Ne.symm h)]
theorem Jk (n:Nat) (l:List RdI) (r:RdI) (h0:0≤r.1) (h1:r.1<(n:Int)):DG (aW n l) r=aW n (l++[r]):=by
 have hk:r.1.toNat<n:=by omega
 have hb:=dA n l
 have hg:=jC n l hk
 have e1:(tH (aW n l) r).length=n:=by unfold tH; rw[List.length_set]; exact hb
 refine Jj n _ _ (by unfold DG; rw[List.length_set]; exact e1) fun k hkn=>?_
 unfold DG
 rw[g9 _ _ _ _ _ (by omega)]
 unfold tH
 rw[g9 _ _ _ _ _ (by omega),g9 _ _ _ _ _ (by omega),if_pos rfl,hg]
 rw[Nh,Ni]
 by_cases e:k=r.1.toNat
 ·have er:r.1=(k:Int):=by omega
  rw[if_pos e,if_pos er,if_pos er]
  subst e
  show ((r.1.toNat:Int),(if bLo l r.1.toNat<r.2.1 then r.2.1 else bLo l r.1.toNat),(if r.2.2.1<bHi l r.1.toNat then r.2.2.1 else bHi l r.1.toNat),())=_
  have a1:(if bLo l r.1.toNat<r.2.1 then r.2.1 else bLo l r.1.toNat)=max (bLo l r.1.toNat) r.lo:=by
   show _=max (bLo l r.1.toNat) r.2.1
   split<;>omega
  have a2:(if r.2.2.1<bHi l r.1.toNat then r.2.2.1 else bHi l r.1.toNat)=min (bHi l r.1.toNat) r.hi:=by
   show _=min (bHi l r.1.toNat) r.2.2.1
   split<;>omega
  rw[a1,a2]
 ·have er:¬r.1=(k:Int):=by omega
  rw[if_neg e,if_neg er,if_neg er,if_neg e,jC n l hkn]
def qb (n:Int) (l:List RdI):Bool:=!l.any fun r=>!kJ n r
def x8 (n:Nat) (l:List RdI):Bool:=(List.range n).any fun i=>decide (bLo l i>bHi l i)
def iQ (n:Int) (l:List RdI):Int:=bif decide (l.length≤256) then bif nB n&&qb n l then bif x8 n.toNat l then 7 else 0 else 2 else 3
def vg (n:Int) (l:List RdI):List RdI:=bif iQ n l==0 then aW n.toNat l else []
def jq (xs:List RdI) (e:Int):AOut:=.ret (.tup [.ro (.recd (.cons (.int .i64) (.cons (.int .i64) (.cons (.int .i64) .nil)))) xs,.int .i64 e])
def bF1 {α:Type} (n:Int) (x:List RdI × Int × Unit):Option (LRes (List RdI × Int × Unit) α):=
 bif decide (x.2.1<n) then
  if (x.1.length+[(x.2.1,0,70368744177664,())].length)*24≤room then some (.cont (x.1++[(x.2.1,0,70368744177664,())],IntKind.i64.wrap (x.2.1+1),()))
  else none
 else some (.brk 1 (x.1,x.2.1,()))
def bF2 {α:Type} (l:List RdI) (x:Int × List RdI × Unit):Option (LRes (Int × List RdI × Unit) α):=
 bif decide (x.1<(l.length:Int)) then
  if 0≤x.1∧x.1<(l.length:Int) then
   if 0≤(l.getD x.1.toNat rdD).1∧(l.getD x.1.toNat rdD).1<(x.2.1.length:Int) then some (.cont (IntKind.i64.wrap (x.1+1),DG x.2.1 (l.getD x.1.toNat rdD),()))
   else none
  else none
 else some (.brk 3 (x.1,x.2.1,()))
def bF3 {α:Type} (o:List RdI) (k:AOut→Option α) (x:Int × Unit):Option (LRes (Int × Unit) α):=
 bif decide (x.1<(o.length:Int)) then
  if 0≤x.1∧x.1<(o.length:Int) then
   bif decide ((o.getD x.1.toNat rdD).2.1>(o.getD x.1.toNat rdD).2.2.1) then finL (bif decide (x.1≥0) then k (jq [] 7) else k (jq o 0))
   else some (.cont (IntKind.i64.wrap (x.1+1),()))
  else none
 else some (.brk 0 (x.1,()))
def qc {α:Type} (N:Nat) (n:Int) (l:List RdI) (k:AOut→Option α):Option α:=
 ag (af N (bF1 n) ([],0,())) fun id y=>if id=1 then ag (af N (bF2 l) (0,y.1,())) fun id y=>if id=3 then ag (af N (bF3 y.2.1 k) (0,())) fun id _=>if id=0 then k (jq y.2.1 0) else none else none else none
def bF0 {α:Type} (N:Nat) (l:List RdI) (k:AOut→Option α) (x:Int × Int × Unit):Option (LRes (Int × Int × Unit) α):=
 bif decide (x.1<(l.length:Int)) then
  if 0≤x.1∧x.1<(l.length:Int) then
   bif nB x.2.1 then
    bif !kJ x.2.1 ((l.getD x.1.toNat rdD).1,(l.getD x.1.toNat rdD).2.1,(l.getD x.1.toNat rdD).2.2.1,()) then finL (bif decide (x.1≥0) then k (jq [] 2) else qc N x.2.1 l k)
    else some (.cont (IntKind.i64.wrap (x.1+1),x.2.1,()))
   else none
  else none
 else some (.brk 0 (x.1,x.2.1,()))
set_option maxRecDepth 100000 in
theorem FQ (N n0:Nat) (α:Type) (n:Int) (l:List RdI) (k:AOut→Option α):am real tab ((twY Qz de).env real tab N (n0+12)) N Tryz.f177 α [iN n,.ro (.recd (.cons (.int .i64) (.cons (.int .i64) (.cons (.int .i64) .nil)))) l] k =
 bif decide ((l.length:Int)>256) then k (jq [] 3) else bif decide (0≤n) then bif !decide (n≤16) then bif !decide (n≤16) then k (jq [] 2) else qc N n l k else ag
 (af N (bF0 N l k) (0,n,())) fun id y=>if id=0 then qc N y.2.1 l k else none else k (jq [] 2):=by kernel_rfl
theorem QA {α:Type} (n:Nat) {i:Nat} (hi:i<n) (hn:n≤16):bF1 (α:=α) (n:Int) (aW i [],(i:Int),())=some (.cont (aW (i+1) [],((i+1:Nat):Int),())):=by
 unfold bF1
 have hmx:n≤maxLen:=by have:maxLen=9223372036854775807:=rfl; omega
 have hr:((aW i []).length+1)*24≤room:=by rw[dA]; simp only[room]; omega
 simp only[aR hi,cond_true,List.length_cons,List.length_nil,Nat.zero_add,if_pos hr,ao hi hmx]
 unfold aW
 rw[List.range_succ,List.map_append]
 rfl
theorem QB {α:Type} (n:Nat) (l:List RdI) (hl:l.length≤maxLen) (hr:qb n l=true) {i:Nat} (hi:i<l.length):bF2 (α:=α) l ((i:Int),aW n (l.take i),())=some (.cont (((i+1:Nat):Int),aW n (l.take (i+1)),())):=by
 unfold bF2
 have hg:kJ n (l.getD i rdD)=true:=by
  unfold qb at hr
  rw[Bool.not_eq_true',List.any_eq_false] at hr
  have:=hr (l.getD i rdD) (by rw[List.getD_eq_getElem?_getD,List.getElem?_eq_getElem hi]; exact List.getElem_mem hi)
  cases h:kJ n (l.getD i rdD)
  ·rw[h] at this; exact absurd rfl this
  ·rfl
 unfold kJ at hg
 rw[Bool.and_eq_true,ln] at hg
 have hx:0≤(l.getD i rdD).1∧(l.getD i rdD).1<(n:Int):=⟨hg.1.1,by omega⟩
 simp only[aR hi,cond_true,aH hi,if_pos,and_self,decide_true,Int.toNat_natCast,ao hi hl,dA,hx.1,hx.2,Jk n _ _ hx.1 hx.2,←iP l rdD hi]
theorem QC {α:Type} (n:Nat) (l:List RdI) (hn:n≤maxLen) (k:AOut→Option α) {i:Nat} (hi:i<n):bF3 (aW n l) k ((i:Int),())=bif decide (bLo l i>bHi l i) then finL (k (jq [] 7)) else some (.cont (((i+1:Nat):Int),())):=by
 unfold bF3
 have h0:decide ((i:Int)≥0)=true:=decide_eq_true (by omega)
 simp only[dA,aR hi,cond_true,aH hi,if_pos,and_self,decide_true,Int.toNat_natCast,ao hi hn,jC n l hi,h0]
theorem Jl {α:Type} (n:Nat) (hn:n≤16) (l:List RdI) (hl:l.length≤256) (hr:qb n l=true) (k:AOut→Option α):qc 300 (n:Int) l k=bif x8 n l then k (jq [] 7) else k (jq (aW n l) 0):=by
 have hm:maxLen=9223372036854775807:=rfl
 unfold qc
 refine (aB (f:=bF1 (n:Int)) (fun i=>(aW i [],(i:Int),())) n (fun i hi=>QA n hi hn) (y:=(aW n [],(n:Int),())) (b:=1) ?_ (by omega)).trans ?_
 ·unfold bF1; simp only[ap,cond_false]
 simp only[if_true]
 refine (aB (f:=bF2 l) (fun i=>((i:Int),aW n (l.take i),())) l.length (fun i hi=>QB n l (by omega) hr hi) (y:=((l.length:Int),aW n l,())) (b:=3) ?_ (by omega)).trans ?_
 ·unfold bF2; simp only[ap,cond_false,List.take_length]
 simp only[if_true]
 refine (eD (f:=bF3 (aW n l) k) (fun i:Nat=>((i:Int),())) n (fun i=>decide (bLo l i>bHi l i)) (k (jq [] 7)) (fun i hi=>QC n l (by omega) k hi) (y:=((n:Int),())) (b:=0) ?_ (by omega)).trans ?_
 ·unfold bF3; simp only[dA,ap,cond_false]
 ·rfl
theorem QD {α:Type} (n:Int) (hn:nB n=true) (l:List RdI) (hl:l.length≤maxLen) (k:AOut→Option α) {i:Nat} (hi:i<l.length):bF0 300 l k ((i:Int),n,())=bif !kJ n (l.getD i rdD) then finL (k (jq [] 2)) else some (.cont (((i+1:Nat):Int),n,())):=by
 unfold bF0
 have h0:decide ((i:Int)≥0)=true:=decide_eq_true (by omega)
 simp only[aR hi,cond_true,aH hi,if_pos,and_self,decide_true,Int.toNat_natCast,ao hi hl,h0,hn]
theorem Bb {α:Type} (n:Int) (l:List RdI) (k:AOut→Option α):(bif decide ((l.length:Int)>256) then k (jq [] 3) else
  bif decide (0≤n) then
   bif !decide (n≤16) then
    bif !decide (n≤16) then k (jq [] 2) else qc 300 n l k
   else ag (af 300 (bF0 300 l k) (0,n,())) fun id y=>if id=0 then qc 300 y.2.1 l k else none
  else k (jq [] 2))=k (jq (vg n l) (iQ n l)):=by
 unfold vg iQ
 by_cases hl:l.length≤256
 ·rw[decide_eq_false (show ¬(l.length:Int)>256 by omega),cond_false,decide_eq_true hl,cond_true]
  have hm:maxLen=9223372036854775807:=rfl
  by_cases h0:0≤n
  ·rw[decide_eq_true h0,cond_true]
   by_cases h1:n≤16
   ·have hn:nB n=true:=ln.2 ⟨h0,h1⟩
    rw[decide_eq_true h1,Bool.not_true,cond_false,hn,Bool.true_and]
    obtain⟨m,rfl⟩:∃m:Nat,n=m:=⟨n.toNat,by omega⟩
    refine (eD (f:=bF0 300 l k) (fun i:Nat=>((i:Int),(m:Int),())) l.length (fun i=>!kJ m (l.getD i rdD)) (k (jq [] 2)) (fun i hi=>QD _ hn l (by omega) k hi) (y:=((l.length:Int),(m:Int),())) (b:=0) ?_ (by omega)).trans ?_
    ·unfold bF0; simp only[ap,cond_false]
    ·rw[dL l rdD (fun r=>!kJ m r)]
     have e:qb m l=!l.any fun r=>!kJ m r:=rfl
     cases h:l.any fun r=>!kJ m r
     ·rw[h] at e
      rw[e,cond_false]
      simp only[if_true,Bool.not_false,cond_true,Int.toNat_natCast]
      rw[Jl m (by omega) l hl e k]
      cases x8 m l<;>rfl
     ·rw[h] at e
      rw[e]
      rfl
   ·have hn:nB n=false:=by cases h:nB n with|false=>rfl|true=>exact absurd (ln.1 h).2 h1
    rw[decide_eq_false h1,hn]
    rfl
  ·have hn:nB n=false:=by cases h:nB n with|false=>rfl|true=>exact absurd (ln.1 h).1 h0
   rw[decide_eq_false h0,hn]
   rfl
 ·rw[decide_eq_true (show (l.length:Int)>256 by omega),decide_eq_false hl]; rfl
noncomputable def DH:Fsp:=fun _ args k=>match args with
 | [.int .i64 n,.ro (.recd (.cons (.int .i64) (.cons (.int .i64) (.cons (.int .i64) .nil)))) l]=>k (jq (vg n l) (iQ n l))
 |_=>none
theorem Jm:FspOk Tryz.prog 177 DH:=aq DF a8 ⟨Tryz.func177,fun _ _=>by kernel_rfl⟩ (by intro α args k; unfold DH; split<;>rfl) fun args out hSm hEq=>by
 unfold DH at hEq
 split at hEq
 ·rename_i n l
  exact⟨300,12,((FQ 300 0 AOut n l some).trans (Bb n l some)).trans hEq⟩
 ·cases hEq
def FR (v e:Int):AOut:=.ret (.tup [.int .i64 v,.int .i64 e])
/-! The reference. -/
/-! The reference's bounds. -/
noncomputable def Jn:FuncId→Option Fsp:=fun g=>
 if g=177 then some DH else
 Qz g
theorem pd:aD Jn:=
 ae Jm <|
 DF
def mustN (l:List RdI) (m:Int):Nat:=l.countP fun r=>decide (r.hi≤m)
def canN (l:List RdI) (m:Int):Nat:=l.countP fun r=>decide (r.lo≤m)
def bg (l:List RdI):Int:=l.foldl (fun a r=>min a r.lo) 129368065
def bk (l:List RdI):Int:=l.foldl (fun a r=>min a r.hi) 129368064
def awB (l:List RdI):Bool:=!l.any fun r=>decide (r.hi≤129368064)
theorem FS (l:List RdI) (r:RdI) (m:Int):mustN (l++[r]) m=mustN l m+bif decide (r.hi≤m) then 1 else 0:=by
 unfold mustN
 rw[List.countP_append,List.countP_singleton]
 cases decide (r.hi≤m)<;>rfl
theorem Jo (l:List RdI) (r:RdI) (m:Int):canN (l++[r]) m=canN l m+bif decide (r.lo≤m) then 1 else 0:=by
 unfold canN
 rw[List.countP_append,List.countP_singleton]
 cases decide (r.lo≤m)<;>rfl
theorem x9 (l:List RdI) (m:Int):mustN l m≤l.length:=List.countP_le_length
theorem vh (l:List RdI) (m:Int):canN l m≤l.length:=List.countP_le_length
abbrev rdG (l:List RdI) (x:Int):RdI:=l.getD x.toNat rdD
def upF {α:Type} (l:List RdI) (m:Int) (x:Int × Int × Int × Unit):Option (LRes (Int × Int × Int × Unit) α):=
 bif decide (x.2.2.1<(l.length:Int)) then
  if 0≤x.2.2.1∧x.2.2.1<(l.length:Int) then
   bif decide ((rdG l x.2.2.1).2.2.1≤m) then
    bif decide ((rdG l x.2.2.1).2.1≤m) then some (.cont (IntKind.i64.wrap (x.1+1),IntKind.i64.wrap (x.2.1+1),IntKind.i64.wrap (x.2.2.1+1),()))
    else some (.cont (IntKind.i64.wrap (x.1+1),x.2.1,IntKind.i64.wrap (x.2.2.1+1),()))
   else bif decide ((rdG l x.2.2.1).2.1≤m) then some (.cont (x.1,IntKind.i64.wrap (x.2.1+1),IntKind.i64.wrap (x.2.2.1+1),()))
   else some (.cont (x.1,x.2.1,IntKind.i64.wrap (x.2.2.1+1),()))
  else none
 else some (.brk 0 (x.1,x.2.1,x.2.2.1,()))
set_option maxRecDepth 100000 in
theorem Jp (N n0:Nat) (α:Type) (l:List RdI) (m:Int) (k:AOut→Option α):am real tab ((twY Jn de).env real tab N (n0+12)) N Tryz.f181 α [.ro (.recd (.cons (.int .i64) (.cons (.int .i64) (.cons (.int .i64) .nil)))) l,iN m] k =
 ag (af N (upF l m) (0,0,0,())) fun id y=>if id=0 then k (FR y.1 y.2.1) else none:=by kernel_rfl
theorem QE {α:Type} (l:List RdI) (m:Int) (hl:l.length≤maxLen) {i:Nat} (hi:i<l.length):upF (α:=α) l m ((mustN (l.take i) m:Int),(canN (l.take i) m:Int),(i:Int),())=some (.cont ((mustN (l.take (i+1)) m:Int),(canN (l.take (i+1)) m:Int),((i+1:Nat):Int),())):=by
 unfold upF rdG
 have h1:mustN (l.take i) m≤i:=Nat.le_trans (x9 _ m) (List.length_take_le i l)
 have h2:canN (l.take i) m≤i:=Nat.le_trans (vh _ m) (List.length_take_le i l)
 simp only[aR hi,cond_true,aH hi,if_pos,and_self,decide_true,Int.toNat_natCast,ao hi hl,iP l rdD hi,FS,Jo]
 rw[ao (n:=i+1) (by omega:mustN (l.take i) m<i+1) (by omega),ao (n:=i+1) (by omega:canN (l.take i) m<i+1) (by omega)]
 show (bif decide ((l.getD i rdD).hi≤m) then bif decide ((l.getD i rdD).lo≤m) then _ else _ else bif decide ((l.getD i rdD).lo≤m) then _ else _)=_
 cases decide ((l.getD i rdD).hi≤m)<;>cases decide ((l.getD i rdD).lo≤m)<;>rfl
theorem FT {α:Type} (l:List RdI) (m:Int) (hl:l.length≤maxLen) (k:AOut→Option α):(ag (af (l.length+1) (upF l m) (0,0,0,())) fun id y=>if id=0 then k (FR y.1 y.2.1) else none)=k (FR (mustN l m) (canN l m)):=by
 refine (aB (f:=upF l m) (fun i=>((mustN (l.take i) m:Int),(canN (l.take i) m:Int),(i:Int),())) l.length (fun i hi=>QE l m hl hi) (y:=((mustN l m:Int),(canN l m:Int),(l.length:Int),())) (b:=0) ?_ (by omega)).trans rfl
 unfold upF; simp only[ap,cond_false,List.take_length]
noncomputable def Nj:Fsp:=fun _ args k=>match args with
 | [.ro (.recd (.cons (.int .i64) (.cons (.int .i64) (.cons (.int .i64) .nil)))) l,.int .i64 m]=>k (FR (mustN l m) (canN l m))
 |_=>none
theorem Nk:FspOk Tryz.prog 181 Nj:=aq pd a8 ⟨Tryz.func181,fun _ _=>by kernel_rfl⟩ (by intro α args k; unfold Nj; split<;>rfl) fun args out hSm hEq=>by
 unfold Nj at hEq
 split at hEq
 ·rename_i l m
  exact⟨l.length+1,12,((Jp (l.length+1) 0 AOut l m some).trans (FT l m (hSm _ (.head _)).len some)).trans hEq⟩
 ·cases hEq
def neF {α:Type} (f:RdI→Int) (l:List RdI) (x:Int × Int × Unit):Option (LRes (Int × Int × Unit) α):=
 bif decide (x.2.1<(l.length:Int)) then
  if 0≤x.2.1∧x.2.1<(l.length:Int) then some (.cont (if f (rdG l x.2.1)<x.1 then f (rdG l x.2.1) else x.1,IntKind.i64.wrap (x.2.1+1),()))
  else none
 else some (.brk 0 (x.1,x.2.1,()))
set_option maxRecDepth 100000 in
theorem Jq (N n0:Nat) (α:Type) (l:List RdI) (k:AOut→Option α):am real tab ((twY Jn de).env real tab N (n0+12)) N Tryz.f178 α [.ro (.recd (.cons (.int .i64) (.cons (.int .i64) (.cons (.int .i64) .nil)))) l] k =
 ag (af N (neF (fun r=>r.2.1) l) (129368065,0,())) fun id y=>if id=0 then ag (af N (neF (fun r=>r.2.2.1) l) (129368064,0,())) fun id z=>if id=0 then k
 (FR y.1 z.1) else none else none:=by kernel_rfl
theorem DI {α:Type} (f:RdI→Int) (a:Int) (l:List RdI) (hl:l.length≤maxLen) {N:Nat} (hN:l.length<N) (K:Nat→Int × Int × Unit→Option α):ag (af N (neF f l) (a,0,())) K=K 0 (l.foldl (fun a r=>min a (f r)) a,(l.length:Int),()):=by
 refine (aB (f:=neF f l) (fun i=>((l.take i).foldl (fun a r=>min a (f r)) a,(i:Int),())) l.length (fun i hi=>?_) (y:=(l.foldl (fun a r=>min a (f r)) a,(l.length:Int),())) (b:=0) ?_ hN)
 ·unfold neF rdG
  simp only[aR hi,cond_true,aH hi,if_pos,and_self,decide_true,Int.toNat_natCast,ao hi hl,iP l rdD hi,List.foldl_append,List.foldl_cons,List.foldl_nil]
  have:∀p q:Int,(if q<p then q else p)=min p q:=fun p q=>by split<;>omega
  rw[this]
 ·unfold neF; simp only[ap,cond_false,List.take_length]
noncomputable def Nl:Fsp:=fun _ args k=>match args with
 | [.ro (.recd (.cons (.int .i64) (.cons (.int .i64) (.cons (.int .i64) .nil)))) l]=>k (FR (bg l) (bk l))
 |_=>none
theorem Nm:FspOk Tryz.prog 178 Nl:=aq pd a8 ⟨Tryz.func178,fun _ _=>by kernel_rfl⟩ (by intro α args k; unfold Nl; split<;>rfl) fun args out hSm hEq=>by
 unfold Nl at hEq
 split at hEq
 ·rename_i l
  have hl:=(hSm _ (.head _)).len
  refine⟨l.length+1,12,(Jq (l.length+1) 0 AOut l some).trans (Eq.trans ?_ hEq)⟩
  refine (DI _ _ l hl (Nat.lt_succ_self _) _).trans ?_
  simp only[if_true]
  exact (DI _ _ l hl (Nat.lt_succ_self _) _).trans rfl
 ·cases hEq
def awF {α:Type} (l:List RdI) (k:AOut→Option α) (x:Int × Unit):Option (LRes (Int × Unit) α):=
 bif decide (x.1<(l.length:Int)) then
  if 0≤x.1∧x.1<(l.length:Int) then
   bif decide ((rdG l x.1).2.2.1≤129368064) then finL (k (b1 (!decide (x.1≥0)))) else some (.cont (IntKind.i64.wrap (x.1+1),()))
  else none
 else some (.brk 0 (x.1,()))
set_option maxRecDepth 100000 in
theorem Jr (N n0:Nat) (α:Type) (l:List RdI) (k:AOut→Option α):am real tab ((twY Jn de).env real tab N (n0+12)) N Tryz.f179 α [.ro (.recd (.cons (.int .i64) (.cons (.int .i64) (.cons (.int .i64) .nil)))) l] k =
 ag (af N (awF l k) (0,())) fun id _=>if id=0 then k (b1 (!decide (-1≥0))) else none:=by kernel_rfl
noncomputable def Nn:Fsp:=fun _ args k=>match args with
 | [.ro (.recd (.cons (.int .i64) (.cons (.int .i64) (.cons (.int .i64) .nil)))) l]=>k (b1 (awB l))
 |_=>none
theorem FU {α:Type} (l:List RdI) (hl:l.length≤maxLen) (k:AOut→Option α):(ag (af (l.length+1) (awF l k) (0,())) fun id _=>if id=0 then k (b1 (!decide (-1≥0))) else none)=k (b1 (awB l)):=by
 refine (iw (f:=awF l k) (fun i:Nat=>((i:Int),())) l.length (fun i=>decide ((l.getD i rdD).hi≤129368064)) (k (b1 false)) (fun i hi=>?_) (y:=((l.length:Int),())) (b:=0) ?_).trans ?_
 ·unfold awF rdG
  have h0:decide ((i:Int)≥0)=true:=decide_eq_true (by omega)
  simp only[aR hi,cond_true,aH hi,if_pos,and_self,decide_true,Int.toNat_natCast,ao hi hl,h0,Bool.not_true]
 ·unfold awF; simp only[ap,cond_false]
 ·rw[dL l rdD (fun r=>decide (r.hi≤129368064))]
  unfold awB
  cases l.any fun r=>decide (r.hi≤129368064)<;>rfl
theorem Np:FspOk Tryz.prog 179 Nn:=aq pd a8 ⟨Tryz.func179,fun _ _=>by kernel_rfl⟩ (by intro α args k; unfold Nn; split<;>rfl) fun args out hSm hEq=>by
 unfold Nn at hEq
 split at hEq
 ·rename_i l
  exact⟨l.length+1,12,((Jr (l.length+1) 0 AOut l some).trans (FU l (hSm _ (.head _)).len some)).trans hEq⟩
 ·cases hEq
noncomputable def QF:FuncId→Option Fsp:=fun g=>
 if g=181 then some Nj else
 if g=178 then some Nl else
 if g=179 then some Nn else
 Jn g
theorem DJ:aD QF:=
 ae Nk <|
 ae Nm <|
 ae Np <|
 pd
abbrev stG (l:List SnI) (x:Int):SnI:=l.getD x.toNat snD
def bZ (l:List SnI) (r:List RdI):Int:=bif decide (r.length≤256) then bif eG l then iQ l.length r else 2 else 3
def tmN (l:List SnI) (b:List RdI) (t:Int) (i:Nat):List RdI:=((List.range i).filter fun k=>(l.getD k snD).1==t).map fun k=>b.getD k rdD
def tmL (l:List SnI) (b:List RdI) (t:Int):List RdI:=tmN l b t l.length
theorem Js (l:List SnI) (b:List RdI) (t:Int) (i:Nat):tmN l b t (i+1)=bif (l.getD i snD).1==t then tmN l b t i++[b.getD i rdD] else tmN l b t i:=by
 unfold tmN
 rw[List.range_succ,List.filter_append,List.map_append]
 have e:List.filter (fun k=>(l.getD k snD).1==t) [i]=bif (l.getD i snD).1==t then [i] else []:=by
  rw[List.filter_cons]
  cases (l.getD i snD).1==t<;>rfl
 rw[e]
 cases (l.getD i snD).1==t
 ·exact List.append_nil _
 ·rfl
theorem pe (l:List SnI) (b:List RdI) (t:Int) (i:Nat):(tmN l b t i).length≤i:=by
 unfold tmN
 rw[List.length_map]
 exact Nat.le_trans (List.length_filter_le _ _) (by rw[List.length_range]; exact Nat.le_refl i)
theorem iR {l:List SnI} (h:eG l=true):l.length≤16∧∀i,i<l.length→snV (l.getD i snD)=true:=by
 unfold eG at h
 rw[Bool.and_eq_true,decide_eq_true_eq,Bool.not_eq_true',List.any_eq_false] at h
 refine⟨h.1,fun i hi=>?_⟩
 have:=h.2 i (List.mem_range.2 hi)
 unfold p9 at this
 cases hv:snV (l.getD i snD)
 ·rw[hv] at this; exact absurd rfl this
 ·rfl
theorem Jt {s:SnI} (h:snV s=true):s.1=0∨s.1=1:=by
 unfold snV at h
 simp only[Bool.and_eq_true,decide_eq_true_eq] at h
 omega
def QG (l:List SnI) (r:List RdI):AOut:=
 bif bZ l r==0 then .ret (.tup [.ro (.recd (.cons (.int .i64) (.cons (.int .i64) (.cons (.int .i64) .nil)))) (aW l.length r),.agg [.ro (.recd (.cons (.int .i64) (.cons (.int .i64) (.cons (.int .i64) .nil)))) (tmL l (aW l.length r) 0),.ro (.recd (.cons (.int .i64) (.cons (.int .i64) (.cons (.int .i64) .nil)))) (tmL l (aW l.length r) 1)],.int .i64 0])
 else .ret (.tup [.nils,.agg [.ro (.recd (.cons (.int .i64) (.cons (.int .i64) (.cons (.int .i64) .nil)))) [],.ro (.recd (.cons (.int .i64) (.cons (.int .i64) (.cons (.int .i64) .nil)))) []],.int .i64 (bZ l r)])
def vi (e:Int):AOut:=.ret (.tup [.nils,.agg [.ro (.recd (.cons (.int .i64) (.cons (.int .i64) (.cons (.int .i64) .nil)))) [],.ro (.recd (.cons (.int .i64) (.cons (.int .i64) (.cons (.int .i64) .nil)))) []],.int .i64 e])
abbrev TmS:=Int × List RdI × List RdI × Unit
def sdF {α:Type} (l:List SnI) (b:List RdI) (x:TmS):Option (LRes TmS α):=
 bif decide (x.1<(b.length:Int)) then
  if 0≤x.1∧x.1<(b.length:Int) then if 0≤x.1∧x.1<(l.length:Int) then if 0≤x.1∧x.1<(l.length:Int) then
   if 0≤(stG l x.1).1∧(stG l x.1).1<((2:Nat):Int) then
    bif (stG l x.1).1==((0:Nat):Int) then
     if (x.2.1.length+[((rdG b x.1).1,(rdG b x.1).2.1,(rdG b x.1).2.2.1,())].length)*24≤room then
      if 0≤(stG l x.1).1∧(stG l x.1).1<((2:Nat):Int) then
       bif (stG l x.1).1==((0:Nat):Int) then some (.cont (IntKind.i64.wrap (x.1+1),x.2.1++[((rdG b x.1).1,(rdG b x.1).2.1,(rdG b x.1).2.2.1,())],x.2.2.1,()))
       else bif (stG l x.1).1==((0+1:Nat):Int) then none else none
      else none
     else none
    else bif (stG l x.1).1==((0+1:Nat):Int) then
     if (x.2.2.1.length+[((rdG b x.1).1,(rdG b x.1).2.1,(rdG b x.1).2.2.1,())].length)*24≤room then
      if 0≤(stG l x.1).1∧(stG l x.1).1<((2:Nat):Int) then
       bif (stG l x.1).1==((0:Nat):Int) then none
       else bif (stG l x.1).1==((0+1:Nat):Int) then some (.cont (IntKind.i64.wrap (x.1+1),x.2.1,x.2.2.1++[((rdG b x.1).1,(rdG b x.1).2.1,(rdG b x.1).2.2.1,())],()))
       else none
      else none
     else none
    else none
   else none
  else none else none else none
 else some (.brk 0 (x.1,x.2.1,x.2.2.1,()))
set_option maxRecDepth 100000 in
theorem Ju (N n0:Nat) (α:Type) (l:List SnI) (r:List RdI) (k:AOut→Option α):am real tab ((twY QF de).env real tab N (n0+12)) N Tryz.f134 α [.ro (.recd (.cons (.int .i64) (.cons (.int .i64) (.cons (.recd (.cons (.int .i64) (.cons (.int .i64) .nil))) .nil)))) l,.ro (.recd (.cons (.int .i64) (.cons (.int .i64) (.cons (.int .i64) .nil)))) r] k =
 bif decide ((r.length:Int)>256) then k (vi 3) else bif ni l != 0 then k (vi (ni l)) else bif iQ l.length r != 0 then k (vi (iQ l.length r)) else ag (af N
 (sdF l (vg l.length r)) (0,[],[],())) fun id y=>if id=0 then k (.ret (.tup [.ro (.recd (.cons (.int .i64) (.cons (.int .i64) (.cons (.int .i64) .nil)))) (vg l.length r),
 .agg [.ro (.recd (.cons (.int .i64) (.cons (.int .i64) (.cons (.int .i64) .nil)))) y.2.1,.ro (.recd (.cons (.int .i64) (.cons (.int .i64) (.cons (.int .i64) .nil)))) y.2.2.1],.int
 .i64 0])) else none:=by kernel_rfl
theorem QH {α:Type} (l:List SnI) (b:List RdI) (hb:b.length=l.length) (hl:l.length≤16) (hv:∀i,i<l.length→snV (l.getD i snD)=true) {i:Nat} (hi:i<l.length):sdF (α:=α) l b ((i:Int),tmN l b 0 i,tmN l b 1 i,())=some (.cont (((i+1:Nat):Int),tmN l b 0 (i+1),tmN l b 1 (i+1),())):=by
 have hmx:l.length≤maxLen:=by have:maxLen=9223372036854775807:=rfl; omega
 have h0:((tmN l b 0 i).length+1)*24≤room:=by have:=pe l b 0 i; simp only[room]; omega
 have h1:((tmN l b 1 i).length+1)*24≤room:=by have:=pe l b 1 i; simp only[room]; omega
 unfold sdF stG rdG
 simp only[hb,aR hi,cond_true,aH hi,if_pos,and_self,decide_true,Int.toNat_natCast,ao hi hmx,List.length_cons,List.length_nil,Nat.zero_add,h0,h1,Js]
 rcases Jt (hv i hi) with e|e<;>rw[e]<;>rfl
theorem FV {α:Type} (l:List SnI) (r:List RdI) (k:AOut→Option α):(bif decide ((r.length:Int)>256) then k (vi 3) else
 bif ni l != 0 then k (vi (ni l)) else
 bif iQ l.length r != 0 then k (vi (iQ l.length r)) else
 ag (af 20 (sdF l (vg l.length r)) (0,[],[],())) fun id y=>if id=0 then k (.ret (.tup [.ro (.recd (.cons (.int .i64) (.cons (.int .i64) (.cons (.int .i64) .nil)))) (vg l.length r),.agg [.ro (.recd (.cons (.int .i64) (.cons (.int .i64) (.cons (.int .i64) .nil)))) y.2.1,.ro (.recd (.cons (.int .i64) (.cons (.int .i64) (.cons (.int .i64) .nil)))) y.2.2.1],.int .i64 0])) else none)=k (QG l r):=by
 unfold QG
 by_cases h:r.length≤256
 ·rw[decide_eq_false (show ¬(r.length:Int)>256 by omega),cond_false]
  have e1:bZ l r=bif eG l then iQ l.length r else 2:=by unfold bZ; rw[decide_eq_true h]; rfl
  unfold ni
  cases hs:eG l
  ·rw[hs] at e1
   rw[e1]; rfl
  ·rw[hs] at e1
   rw[e1,cond_true,cond_true]
   show (bif iQ l.length r != 0 then k (vi (iQ l.length r)) else _)=_
   cases hE:iQ l.length r==0
   ·have:(iQ l.length r != 0)=true:=by unfold bne; rw[hE]; rfl
    rw[this]; rfl
   ·have:(iQ l.length r != 0)=false:=by unfold bne; rw[hE]; rfl
    rw[this,cond_false,cond_true]
    have hR:vg l.length r=aW l.length r:=by unfold vg; rw[hE]; rfl
    rw[hR]
    obtain⟨hl,hv⟩:=iR hs
    have hb:=dA l.length r
    refine (aB (f:=sdF l (aW l.length r)) (fun i=>((i:Int),tmN l (aW l.length r) 0 i,tmN l (aW l.length r) 1 i,())) l.length (fun i hi=>QH l _ hb hl hv hi) (y:=((l.length:Int),tmL l (aW l.length r) 0,tmL l (aW l.length r) 1,())) (b:=0) ?_ (by omega)).trans rfl
    unfold sdF; simp only[hb,ap,cond_false]; rfl
 ·have e1:bZ l r=3:=by unfold bZ; rw[decide_eq_false h]; rfl
  rw[decide_eq_true (show (r.length:Int)>256 by omega),e1]; rfl
noncomputable def FX:Fsp:=fun _ args k=>match args with
 | [.ro (.recd (.cons (.int .i64) (.cons (.int .i64) (.cons (.recd (.cons (.int .i64) (.cons (.int .i64) .nil))) .nil)))) l,.ro (.recd (.cons (.int .i64) (.cons (.int .i64) (.cons (.int .i64) .nil)))) r]=>bif bZ l r==0 then k (.ret (.tup [.ro (.recd (.cons (.int .i64) (.cons (.int .i64) (.cons (.int .i64) .nil)))) (aW l.length r),.agg [.ro (.recd (.cons (.int .i64) (.cons (.int .i64) (.cons (.int .i64) .nil)))) (tmL l (aW l.length r) 0),.ro (.recd (.cons (.int .i64) (.cons (.int .i64) (.cons (.int .i64) .nil)))) (tmL l (aW l.length r) 1)],.int .i64 0])) else k (vi (bZ l r))
 |_=>none
theorem gK:FspOk Tryz.prog 134 FX:=aq DJ a8 ⟨Tryz.func134,fun _ _=>by kernel_rfl⟩ (by intro α args k; unfold FX; split<;>simp only[ak,Option.bind_some,Option.bind_none]) fun args out hSm hEq=>by
 unfold FX at hEq
 split at hEq
 ·rename_i l r
  refine⟨20,12,((Ju 20 0 AOut l r some).trans (FV l r some)).trans (Eq.trans ?_ hEq)⟩
  unfold QG vi
  cases bZ l r==0<;>rfl
 ·cases hEq
noncomputable def nj:FuncId→Option Fsp:=fun g=>
 if g=134 then some FX else
 QF g
theorem eY:aD nj:=
 ae gK <|
 DJ
abbrev ScI:=Int × Int × Unit
abbrev ScM:=List (ScI × Bool)
def ya (t n:Int) (m:ScM):ScM:=c8 bB .bool (t,n,()) true m
def cw (m:ScM):List ScI:=m.map (·.1)
theorem Bc (t n:Int) (q:ScI) (m:ScM):q∈cw (ya t n m)↔q=(t,n,())∨q∈cw m:=A9 (k:=bB) (v:=.bool) Ba (t,n,()) q true m
theorem vj (t n:Int) {m:ScM} (h:(cw m).Nodup):(cw (ya t n m)).Nodup:=vf (k:=bB) (v:=.bool) Ba (t,n,()) true h
def sQ (s:List RdI) (t d:Int) (m:ScM):Nat→ScM
 |0=>m
 |i+1=>ya t ((max 1 (mustN s d)+i:Nat):Int) (sQ s t d m i)
def yb (s:List RdI) (d:Int):Nat:=canN s d+1-max 1 (mustN s d)
def kZ (s:List RdI) (t d:Int) (m:ScM):ScM:=sQ s t d m (yb s d)
def vk (o:List RdI) (r:RdI):List Int:=[r.lo,r.hi].filter fun d=>decide (bg o≤d)&&decide (d≤bk o-1)
def lims (s o:List RdI):List Int:=(bif awB o then [129368064] else [])++bif decide (bg o≤bk o) then (bg o-1)::s.flatMap (vk o) else []
def tmM (s o:List RdI) (t:Int) (m:ScM):ScM:=(lims s o).foldl (fun m d=>kZ s t d m) m
def oN (a b:List RdI):Bool:=(awB a&&awB b) || decide (max (bg a) (bg b)≤min (bk a) (bk b))
def Nq (a b:List RdI):ScM:=bif oN a b then [((-1,0,()),true)] else []
def scM (a b:List RdI):ScM:=tmM b a 1 (tmM a b 0 (Nq a b))
def msB (s o:List RdI) (n:Nat):Bool:=(lims s o).any fun d=>decide (max 1 (mustN s d)≤n)&&decide (n≤canN s d)
def scT (s o:List RdI) (t:Int):List ScI:=((List.range 16).filter fun i=>msB s o (i+1)).map fun i=>(t,((i+1:Nat):Int),())
def scL (a b:List RdI):List ScI:=(bif oN a b then [(-1,0,())] else [])++(scT a b 0++scT b a 1)
theorem yc (s:List RdI) (t d:Int) (m:ScM) (q:ScI):∀i,q∈cw (sQ s t d m i)↔(∃j,j<i∧q=(t,((max 1 (mustN s d)+j:Nat):Int),()))∨q∈cw m
 |0=>by simp[sQ]
 |i+1=>by
  rw[sQ,Bc,yc s t d m q i]
  constructor
  ·rintro (h|⟨j,hj,h⟩|h)
   ·exact .inl ⟨i,Nat.lt_succ_self i,h⟩
   ·exact .inl ⟨j,by omega,h⟩
   ·exact .inr h
  ·rintro (⟨j,hj,h⟩|h)
   ·by_cases e:j=i
    ·subst e; exact .inl h
    ·exact .inr (.inl ⟨j,by omega,h⟩)
   ·exact .inr (.inr h)
theorem qd (s:List RdI) (t d:Int) {m:ScM} (h:(cw m).Nodup):∀i,(cw (sQ s t d m i)).Nodup
 |0=>h
 |i+1=>vj _ _ (qd s t d h i)
theorem Jv (s:List RdI) (t d:Int) (m:ScM) (q:ScI):q∈cw (kZ s t d m)↔(∃n:Nat,max 1 (mustN s d)≤n∧n≤canN s d∧q=(t,(n:Int),()))∨q∈cw m:=by
 unfold kZ yb
 rw[yc]
 refine or_congr ⟨fun ⟨j,hj,e⟩=>⟨max 1 (mustN s d)+j,by omega,by omega,e⟩,fun ⟨n,h1,h2,e⟩=>⟨n-max 1 (mustN s d),by omega,?_⟩⟩ Iff.rfl
 rw[Nat.add_sub_cancel' h1]; exact e
theorem vl (s:List RdI) (t:Int) (q:ScI):∀(L:List Int) (m:ScM),q∈cw (L.foldl (fun m d=>kZ s t d m) m)↔(∃d∈L,∃n:Nat,max 1 (mustN s d)≤n∧n≤canN s d∧q=(t,(n:Int),()))∨q∈cw m
 | [],m=>by simp
 |d::L,m=>by
  rw[List.foldl_cons,vl s t q L,Jv]
  constructor
  ·rintro (⟨d',h,r⟩|r|r)
   ·exact .inl ⟨d',List.mem_cons_of_mem _ h,r⟩
   ·exact .inl ⟨d,List.mem_cons_self,r⟩
   ·exact .inr r
  ·rintro (⟨d',h,r⟩|r)
   ·rcases List.mem_cons.1 h with rfl|h
    ·exact .inr (.inl r)
    ·exact .inl ⟨d',h,r⟩
   ·exact .inr (.inr r)
theorem nk (s:List RdI) (t:Int):∀(L:List Int) {m:ScM},(cw m).Nodup→(cw (L.foldl (fun m d=>kZ s t d m) m)).Nodup
 | [],_,h=>h
 |_::L,_,h=>nk s t L (qd s t _ h _)
theorem vm (s o:List RdI) (t:Int) (hs:s.length≤16) (q:ScI):(∃d∈lims s o,∃n:Nat,max 1 (mustN s d)≤n∧n≤canN s d∧q=(t,(n:Int),()))↔q∈scT s o t:=by
 unfold scT
 rw[List.mem_map]
 constructor
 ·rintro⟨d,hd,n,h1,h2,rfl⟩
  have:=vh s d
  refine⟨n-1,List.mem_filter.2 ⟨List.mem_range.2 (by omega),?_⟩,?_⟩
  ·rw[Nat.sub_add_cancel (by omega)]
   exact List.any_eq_true.2 ⟨d,hd,by simp[h1,h2]⟩
  ·rw[Nat.sub_add_cancel (by omega)]
 ·rintro⟨i,hi,rfl⟩
  obtain⟨d,hd,h⟩:=List.any_eq_true.1 (List.mem_filter.1 hi).2
  rw[Bool.and_eq_true,decide_eq_true_eq,decide_eq_true_eq] at h
  exact⟨d,hd,i+1,h.1,h.2,rfl⟩
theorem Nr (a b:List RdI) (ha:a.length≤16) (hb:b.length≤16) (q:ScI):q∈cw (scM a b)↔q∈scL a b:=by
 unfold scM tmM
 rw[vl,vl,vm b a 1 hb,vm a b 0 ha]
 unfold scL Nq
 rw[List.mem_append,List.mem_append]
 cases oN a b
 ·simp only[cond_false,cw,List.map_nil,List.not_mem_nil,or_false,false_or]; exact Or.comm
 ·simp only[cond_true,cw,List.map_cons,List.map_nil,List.mem_singleton]
  constructor
  ·rintro (h|h|h)
   ·exact .inr (.inr h)
   ·exact .inr (.inl h)
   ·exact .inl h
  ·rintro (h|h|h)
   ·exact .inr (.inr h)
   ·exact .inr (.inl h)
   ·exact .inl h
theorem FY (a b:List RdI):(cw (scM a b)).Nodup:=by
 refine nk b 1 _ (nk a 0 _ ?_)
 unfold Nq
 cases oN a b
 ·exact List.nodup_nil
 ·exact List.nodup_cons.2 ⟨List.not_mem_nil,List.nodup_nil⟩
def vn (p q:ScI):Bool:=decide (p.1<q.1) || (p.1==q.1&&decide (p.2.1<q.2.1))
theorem gq (p q:ScI):vn p q=true↔p.1<q.1∨(p.1=q.1∧p.2.1<q.2.1):=by
 unfold vn
 rw[Bool.or_eq_true,Bool.and_eq_true,decide_eq_true_eq,decide_eq_true_eq,@beq_iff_eq Int]
theorem qf (s o:List RdI) (t:Int):(scT s o t).Pairwise fun p q=>vn p q=true:=by
 unfold scT
 refine List.Pairwise.map _ (R:=fun i k:Nat=>i<k) (fun i k h=>?_) (List.Pairwise.filter _ List.pairwise_lt_range)
 rw[gq]
 exact .inr ⟨rfl,by show ((i+1:Nat):Int)<((k+1:Nat):Int); omega⟩
theorem lU {s o:List RdI} {t:Int} {q:ScI} (h:q∈scT s o t):q.1=t∧1≤q.2.1∧q.2.1≤16:=by
 obtain⟨i,hi,rfl⟩:=List.mem_map.1 h
 have:=List.mem_range.1 (List.mem_filter.1 hi).1
 refine⟨rfl,?_,?_⟩<;>(show _≤_; simp only[]; omega)
theorem qg (a b:List RdI):(scL a b).Pairwise fun p q=>vn p q=true:=by
 unfold scL
 have h2:(scT a b 0++scT b a 1).Pairwise fun p q=>vn p q=true:=
  List.pairwise_append.2 ⟨qf a b 0,qf b a 1,fun p hp q hq=>(gq p q).2 (.inl (by rw[(lU hp).1,(lU hq).1]; decide))⟩
 refine List.pairwise_append.2 ⟨?_,h2,fun p hp q hq=>?_⟩
 ·cases oN a b
  ·exact .nil
  ·exact List.pairwise_singleton _ _
 ·cases hB:oN a b
  ·rw[hB] at hp; exact absurd hp List.not_mem_nil
  ·rw[hB] at hp
   rw[List.mem_singleton.1 hp,gq]
   rcases List.mem_append.1 hq with h|h
   ·exact .inl (by rw[(lU h).1]; decide)
   ·exact .inl (by rw[(lU h).1]; decide)
theorem Jw {a b:List RdI} {q:ScI} (h:q∈scL a b):-1≤q.1∧q.1≤1∧0≤q.2.1∧q.2.1≤16:=by
 unfold scL at h
 rcases List.mem_append.1 h with h|h
 ·cases hB:oN a b
  ·rw[hB] at h; exact absurd h List.not_mem_nil
  ·rw[hB] at h; rw[List.mem_singleton.1 h]; decide
 ·rcases List.mem_append.1 h with h|h<;>(have:=lU h; omega)
theorem vo (a b:List RdI):(scL a b).length≤33:=by
 have hT:∀s o t,(scT s o t).length≤16:=fun s o t=>by
  unfold scT
  rw[List.length_map]
  exact Nat.le_trans (List.length_filter_le _ (List.range 16)) (by rw[List.length_range]; exact Nat.le_refl _)
 have h1:=hT a b 0
 have h2:=hT b a 1
 unfold scL
 rw[List.length_append,List.length_append]
 have:(bif oN a b then [((-1:Int),(0:Int),())] else []).length≤1:=by cases oN a b<;>decide
 omega
theorem FZ {l l':List ScI} (h1:l.Pairwise fun p q=>vn p q=true) (h2:l'.Pairwise fun p q=>vn p q=true) (hp:l.Perm l'):l=l':=by
 refine hp.eq_of_pairwise (fun p q _ _ h3 h4=>?_) h1 h2
 rw[gq] at h3 h4
 obtain⟨p1,p2,_⟩:=p
 obtain⟨q1,q2,_⟩:=q
 simp only at h3 h4
 have e1:p1=q1:=by omega
 have e2:p2=q2:=by omega
 rw[e1,e2]
theorem yd (a b:List RdI) (ha:a.length≤16) (hb:b.length≤16):(cw (scM a b)).Perm (scL a b):=by
 refine (List.perm_ext_iff_of_nodup (FY a b) ?_).2 fun q=>Nr a b ha hb q
 refine (qg a b).imp fun {p q} h e=>?_
 subst e
 rw[gq] at h
 omega
abbrev bp:Sh:=.recd (.cons (.int .i64) (.cons (.int .i64) (.cons (.int .i64) .nil)))
abbrev ScS:=ScM × Int × Unit
def rnF {α:Type} (s:List RdI) (t d:Int) (x:ScS):Option (LRes ScS α):=
 bif decide (x.2.1≤(canN s d:Int)) then some (.cont (c8 bB .bool (t,x.2.1,()) true x.1,IntKind.i64.wrap (x.2.1+1),())) else some (.brk 4 (x.1,x.2.1,()))
def rnK {α:Type} (N:Nat) (s:List RdI) (t d:Int) (m:ScM) (K:ScM→Option α):Option α:=
 ag (af N (rnF s t d) (m,if 1<(mustN s d:Int) then (mustN s d:Int) else 1,())) fun id y=>if id=4 then K y.1 else none
def dG (s:List RdI) (i j:Int):Int:=[(rdG s i).2.1,(rdG s i).2.2.1].getD j.toNat 0
def inF {α:Type} (N:Nat) (s o:List RdI) (t i:Int) (x:ScS):Option (LRes ScS α):=
 bif decide (x.2.1<2) then
  if 0≤x.2.1∧x.2.1<((2:Nat):Int) then
   bif decide (bg o≤dG s i x.2.1) then
    bif decide (dG s i x.2.1≤IntKind.i64.wrap (bk o-1)) then rnK N s t (dG s i x.2.1) x.1 fun m=>some (.cont (m,IntKind.i64.wrap (x.2.1+1),()))
    else some (.cont (x.1,IntKind.i64.wrap (x.2.1+1),()))
   else some (.cont (x.1,IntKind.i64.wrap (x.2.1+1),()))
  else none
 else some (.brk 2 (x.1,x.2.1,()))
def ouF {α:Type} (N:Nat) (s o:List RdI) (t:Int) (x:ScS):Option (LRes ScS α):=
 bif decide (x.2.1<(s.length:Int)) then
  if 0≤x.2.1∧x.2.1<(s.length:Int) then ag (af N (inF N s o t x.2.1) (x.1,0,())) fun id y=>if id=2 then some (.cont (y.1,IntKind.i64.wrap (x.2.1+1),())) else none
  else none
 else some (.brk 0 (x.1,x.2.1,()))
def reK {α:Type} (N:Nat) (s o:List RdI) (t:Int) (m:ScM) (K:ScM→Option α):Option α:=
 bif decide (bg o>bk o) then K m
 else rnK N s t (IntKind.i64.wrap (bg o-1)) m fun m=>ag (af N (ouF N s o t) (m,0,())) fun id y=>if id=0 then K y.1 else none
def teK {α:Type} (N:Nat) (s o:List RdI) (t:Int) (m:ScM) (K:ScM→Option α):Option α:=
 bif awB o then rnK N s t 129368064 m fun m=>reK N s o t m K else reK N s o t m K
def teF {α:Type} (N:Nat) (a b:List RdI) (x:ScS):Option (LRes ScS α):=
 bif decide (x.2.1<2) then
  if 0≤x.2.1∧x.2.1<((2:Nat):Int) then
   if 0≤IntKind.i64.wrap (1-x.2.1)∧IntKind.i64.wrap (1-x.2.1)<((2:Nat):Int) then
    bif IntKind.i64.wrap (1-x.2.1)==((0:Nat):Int) then teK N ([a,b].getD x.2.1.toNat []) a x.2.1 x.1 fun m=>some (.cont (m,IntKind.i64.wrap (x.2.1+1),()))
    else bif IntKind.i64.wrap (1-x.2.1)==((0+1:Nat):Int) then teK N ([a,b].getD x.2.1.toNat []) b x.2.1 x.1 fun m=>some (.cont (m,IntKind.i64.wrap (x.2.1+1),()))
    else none
   else none
  else none
 else some (.brk 0 (x.1,x.2.1,()))
def alK {α:Type} (N:Nat) (a b:List RdI) (m:ScM) (K:ScM→Option α):Option α:=
 ag (af N (teF N a b) (m,0,())) fun id y=>if id=0 then K y.1 else none
def scX {α:Type} (N:Nat) (a b:List RdI) (K:ScM→Option α):Option α:=
 bif awB a then bif awB b then alK N a b [((-1,0,()),true)] K
  else bif decide ((if bg a<bg b then bg b else bg a)≤if bk b<bk a then bk b else bk a) then alK N a b [((-1,0,()),true)] K else alK N a b [] K
 else bif decide ((if bg a<bg b then bg b else bg a)≤if bk b<bk a then bk b else bk a) then alK N a b [((-1,0,()),true)] K else alK N a b [] K
end Go.Proofs.YtpgfncncgjihpaaGreat
