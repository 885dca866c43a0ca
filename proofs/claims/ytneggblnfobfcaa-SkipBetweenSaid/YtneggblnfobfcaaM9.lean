/- Parts of the proof, in build order. -/
import Derived.Test.YtneggblnfobfcaaM6
import Derived.ProofKit
import Derived.Test.YtneggblnfobfcaaChecked
import Derived.Test.YtneggblnfobfcaaM8
namespace Go.Proofs.Ytneggblnfobfcaa
open Go.RowKit
mutual
def fitB (P:Program):Sh→TypeId→Bool
 | .int k,t=>
   match P.underlying t with
   | some (.int j)=>decide (j=k)
   | _=>false
 | .bool,t=>
   match P.underlying t with
   | some .bool=>true
   | _=>false
 | .str,t=>
   match P.underlying t with
   | some .string=>true
   | _=>false
 | .recd fs,t=>
   match P.underlying t with
   | some (.struct l)=>decide (P.cellsOf t=fs.size)&&fitsB P fs l.toList 0
   | some (.array n u)=>decide (P.cellsOf t=fs.size)&&fitsA P fs u n
   | _=>false
 | .sl e,t=>
   match P.underlying t with
   | some (.slice u)=>decide (P.cellsOf u=e.size)&&decide (0 < e.size)&&fitB P e u
   | _=>false
 | .mp _ _,_=>false
def fitsB (P:Program):Shs→List Field→Nat→Bool
 | .nil,[],_=>true
 | .cons s r,f :: q,n=>decide (f.offset=n)&&decide (P.cellsOf f.type=s.size)&&fitB P s f.type&&fitsB P r q (n + s.size)
 | _,_,_=>false
def fitsA (P:Program):Shs→TypeId→Nat→Bool
 | .nil,_,0=>true
 | .cons s r,u,n + 1=>decide (P.cellsOf u=s.size)&&fitB P s u&&fitsA P r u n
 | _,_,_=>false
end
mutual
def Wf:(s:Sh)→s.ty→Prop
 | .int k,n=>(Lit.int k n).wf=true
 | .bool,_=>True
 | .str,s=>s.size≤maxLen
 | .recd fs,x=>Wfs fs x
 | .sl e,xs=>List.length (α:=e.ty) xs≤maxLen∧∀ x,List.Mem (α:=e.ty) x xs→Wf e x
 | .mp _ _,_=>False
def Wfs:(fs:Shs)→fs.ty→Prop
 | .nil,_=>True
 | .cons s r,x=>Wf s x.1∧Wfs r x.2
end
theorem opened_cells {w:World} {base n:Nat} {a:Addr} {cs:List Value} (h:w.cells? base a n=some cs):cs.length=n∧∀ i,i < n→w.cell? (a.add i)=cs[i]?:=by
 unfold World.cells? at h
 split at h
 ·exact ⟨by simpa using mapM_some_length h,fun i hi=>mapM_some_get h i i (by simp [hi])⟩
 ·cases h
def gA (w:World):Gh:=⟨fun _=>Go.undef,fun b=>b < w.heap.size⟩
section
variable {P:Program} {H:Type} {enc:TypeId × Value→H} {w:World} {base:Nat} {spare:Nat→Bool} {held:Bool}
def Opens (w:World) (s:Sh) (y:s.ty) (cs:List Value):Prop:=Wf s y∧cs.length=s.size∧∀ (j:Nat) c v,(s.cells y)[j]?=some c→cs[j]?=some v→Rep [] (gA w) w c v
theorem open_row {e:Sh} {a:Addr} {len cap:Nat} (hl:len≤cap) (hm:cap≤maxLen) (h0:0 < e.size)
  (each:∀ i,i < len→∃ cs,w.cells? base (a.add (i * e.size)) e.size=some cs∧∃ y:e.ty,Opens w e y cs):∃ y:(Sh.sl e).ty,Opens w (.sl e) y [.slice (some a) len cap]:=by
 rcases Nat.eq_zero_or_pos len with hz | hp
 ·subst hz
  refine ⟨([]:List e.ty),⟨Nat.zero_le _,fun x hx=>by cases hx⟩,rfl,fun j c v hc hv=>?_⟩
  match j with
  | 0=>cases hc; cases hv; exact .ro0 e _ _ hm fun h=>by cases h
  | j + 1=>cases hv
 ·obtain ⟨b,o,spot⟩:=a
  have hb:b < w.heap.size:=by
   obtain ⟨cs,h1,_⟩:=each 0 hp
   have:=World.cells?_block h1 h0
   unfold Addr.add at this
   split at this<;>exact this
  have hspot:spot=none:=by
   obtain ⟨cs,h1,y,_,h2,_⟩:=each 0 hp
   obtain ⟨hl,hc⟩:=opened_cells h1
   have h3:=hc 0 h0
   rw [List.getElem?_eq_getElem (by omega)] at h3
   simpa [Addr.add] using World.cell?_spot h3
  subst hspot
  have hadd:∀ o i,(Addr.mk b o none).add i=⟨b,o + i,none⟩:=fun o i=>Addr.add_lit ..
  let f:Nat→e.ty:=fun i=>if h:i < len then Classical.choose (Classical.choose_spec (each i h)).2 else e.dflt
  have hf:∀ i,i < len→∃ cs,w.cells? base (Addr.add ⟨b,o,none⟩ (i * e.size)) e.size=some cs∧Opens w e (f i) cs:=fun i hi=>by
   refine ⟨Classical.choose (each i hi),(Classical.choose_spec (each i hi)).1,?_⟩
   simp only [f,dif_pos hi]
   exact Classical.choose_spec (Classical.choose_spec (each i hi)).2
  have hget:∀ (n:Nat) (x:e.ty),((List.range len).map f)[n]?=some x→n < len∧x=f n:=fun n x hn=>by
   rw [List.getElem?_map] at hn
   rcases Nat.lt_or_ge n len with hlt | hge
   ·rw [List.getElem?_range hlt] at hn; cases hn; exact ⟨hlt,rfl⟩
   ·rw [List.getElem?_eq_none (by simpa using hge)] at hn; cases hn
  have hcell:∀ (n:Nat) (x:e.ty) (j:Nat) c,((List.range len).map f)[n]?=some x→(e.cells x)[j]?=some c→∃ u,w.cell? ⟨b,o + n * e.size + j,none⟩=some u∧Rep [] (gA w) w c u:=fun n x j c hn hc=>by
   obtain ⟨hlt,rfl⟩:=hget n x hn
   obtain ⟨cs,h1,_,h2,h3⟩:=hf n hlt
   obtain ⟨_,h4⟩:=opened_cells h1
   have hj:j < e.size:=by rw [← Sh.cells_size e (f n)]; exact (List.getElem?_eq_some_iff.1 hc).1
   have h5:=h4 j hj
   rw [hadd,hadd] at h5
   have hcs:cs[j]?=some cs[j]:=List.getElem?_eq_getElem (by omega)
   rw [hcs] at h5
   refine ⟨_,?_,h3 j c _ hc hcs⟩
   exact h5
  have hlen:((List.range len).map f).length=len:=by simp
  refine ⟨(List.range len).map f,⟨by show ((List.range len).map f).length≤_; omega,fun x hx=>?_⟩,rfl,fun j c v hc hv=>?_⟩
  ·obtain ⟨n,hn⟩:=List.mem_iff_getElem?.1 (show x∈(List.range len).map f from hx)
   obtain ⟨hlt,rfl⟩:=hget n x hn
   obtain ⟨cs,_,h2,_⟩:=hf n hlt
   exact h2
  ·match j with
   | 0=>
     cases hc; cases hv
     have:=Rep.ro1 (h:=[]) (g:=gA w) (w:=w) e ((List.range len).map f) b o cap (fun n j=>(w.cell? ⟨b,o + n * e.size + j,none⟩).getD Go.undef) (by omega) (by omega) hm hb
      (fun n x j c hn hc=>by obtain ⟨u,h1,_⟩:=hcell n x j c hn hc; rw [h1]; rfl)
      (fun n x j c hn hc=>by obtain ⟨u,h1,h2⟩:=hcell n x j c hn hc; rw [h1]; exact h2)
     rw [hlen] at this
     exact this
   | j + 1=>cases hv
theorem trod_arr {fuel n:Nat} {t u:TypeId} {cs:List Value} {x:DataW H × List MemPlace} (hu:P.underlying t=some (.array n u)) (h:DataW.trod enc P w base spare held fuel t cs=some x) :
  cs.length=P.cellsOf t∧∃ m,∀ i,i < n→∃ y,DataW.trod enc P w base spare held m u ((cs.drop (i * P.cellsOf u)).take (P.cellsOf u))=some y:=by
 cases fuel with
 | zero=>simp [DataW.trod] at h
 | succ m=>
   unfold DataW.trod at h
   rw [hu] at h
   split at h<;>simp_all
   obtain ⟨_,xs,hp,_⟩:=h
   refine ⟨m,fun i hi=>?_⟩
   have hg:=mapM_some_get hp i i (by simp [hi])
   have hl:=mapM_some_length hp
   simp only [List.length_range] at hl
   rw [List.getElem?_eq_getElem (by omega)] at hg
   generalize xs[i]=p at hg
   exact ⟨p.1,p.2,hg⟩
mutual
theorem open_sh:(s:Sh)→∀ (t:TypeId) (fuel:Nat) (cs:List Value) (x:DataW H × List MemPlace),fitB P s t=true→DataW.trod enc P w base spare held fuel t cs=some x→∃ y:s.ty,Opens w s y cs
 | .int k,t,fuel,cs,x,hf,h=>by
   simp only [fitB] at hf
   split at hf
   ·rename_i j hu
    have:=of_decide_eq_true hf
    subst this
    obtain ⟨n,rfl,_,hw⟩:=DataW.trod_int hu h
    refine ⟨(n:Int),hw,rfl,fun i c v hc hv=>?_⟩
    match i with
    | 0=>cases hc; cases hv; exact .int _ _
    | i + 1=>cases hv
   ·cases hf
 | .bool,t,fuel,cs,x,hf,h=>by
   simp only [fitB] at hf
   split at hf
   ·rename_i hu
    obtain ⟨b,rfl,_⟩:=DataW.trod_bool hu h
    refine ⟨b,trivial,rfl,fun i c v hc hv=>?_⟩
    match i with
    | 0=>cases hc; cases hv; exact .bool _
    | i + 1=>cases hv
   ·cases hf
 | .str,t,fuel,cs,x,hf,h=>by
   simp only [fitB] at hf
   split at hf
   ·rename_i hu
    obtain ⟨b,rfl,_,hl⟩:=DataW.trod_string hu h
    refine ⟨b,hl,rfl,fun i c v hc hv=>?_⟩
    match i with
    | 0=>cases hc; cases hv; exact .str _
    | i + 1=>cases hv
   ·cases hf
 | .recd fs,t,fuel,cs,x,hf,h=>by
   simp only [fitB] at hf
   split at hf
   ·rename_i l hu
    simp only [Bool.and_eq_true,decide_eq_true_eq] at hf
    obtain ⟨xs,n,_,_,hl,hx,hfl⟩:=DataW.trod_struct hu h
    obtain ⟨y,hy,hr⟩:=open_shs fs l.toList 0 n cs hf.2 (fun f hm=>by
     obtain ⟨i,hi⟩:=List.mem_iff_getElem?.1 hm
     have hi':l[i]?=some f:=by simpa using hi
     have hlt:i < xs.length:=by rw [hx]; exact (Array.getElem?_eq_some_iff.1 hi').1
     exact ⟨xs[i],by rw [hfl i f hi',List.getElem?_eq_getElem hlt]⟩) (by rw [hl,hf.1]; omega)
    refine ⟨y,hy,by rw [hl,hf.1]; rfl,fun j c v hc hv=>hr j c v hc (by rw [Nat.zero_add]; exact hv)⟩
   ·rename_i n u hu
    simp only [Bool.and_eq_true,decide_eq_true_eq] at hf
    obtain ⟨hl,m,hx⟩:=trod_arr hu h
    obtain ⟨y,hy,hr⟩:=open_sha fs u n 0 m cs hf.2 (fun i hi=>by rw [Nat.zero_add]; exact hx i hi) (by rw [hl,hf.1]; omega)
    refine ⟨y,hy,by rw [hl,hf.1]; rfl,fun j c v hc hv=>hr j c v hc (by rw [Nat.zero_mul,Nat.zero_add]; exact hv)⟩
   ·cases hf
 | .sl e,t,fuel,cs,x,hf,h=>by
   simp only [fitB] at hf
   split at hf
   ·rename_i u hu
    simp only [Bool.and_eq_true,decide_eq_true_eq] at hf
    obtain ⟨⟨h1,h2⟩,h3⟩:=hf
    rcases DataW.trod_slice hu h with ⟨rfl,-⟩ | ⟨a,len,cap,elems,rest,n,_,rfl,_,hb,hl,hm,hlen,hel,_,_⟩
    ·refine ⟨([]:List e.ty),⟨Nat.zero_le _,fun x hx=>by cases hx⟩,rfl,fun j c v hc hv=>?_⟩
     match j with
     | 0=>cases hc; cases hv; exact .ro0 e _ _ (Nat.zero_le _) fun _=>rfl
     | j + 1=>cases hv
    ·rw [h1] at hel
     refine open_row (base:=base) hl hm h2 fun i hi=>?_
     have he:=hel i hi
     rw [List.getElem?_eq_getElem (by omega)] at he
     obtain ⟨cs,e1,e2⟩:=Option.bind_eq_some_iff.1 he
     exact ⟨cs,e1,open_sh e u n cs _ h3 e2⟩
   ·cases hf
 | .mp _ _,t,fuel,cs,x,hf,h=>by simp [fitB] at hf
theorem open_shs:(fs:Shs)→∀ (l:List Field) (n0 fuel:Nat) (cs:List Value),fitsB P fs l n0=true →
  (∀ f∈l,∃ x:DataW H × List MemPlace,DataW.trod enc P w base spare held fuel f.type ((cs.drop f.offset).take (P.cellsOf f.type))=some x)→n0 + fs.size≤cs.length →
  ∃ y:fs.ty,Wfs fs y∧∀ (j:Nat) c v,(fs.cells y)[j]?=some c→cs[n0 + j]?=some v→Rep [] (gA w) w c v
 | .nil,l,n0,fuel,cs,hf,h,hl=>⟨(),trivial,fun j c v hc=>by simp [Shs.cells] at hc⟩
 | .cons s r,[],n0,fuel,cs,hf,h,hl=>by simp [fitsB] at hf
 | .cons s r,f :: q,n0,fuel,cs,hf,h,hl=>by
   simp only [fitsB,Bool.and_eq_true,decide_eq_true_eq] at hf
   obtain ⟨⟨⟨h1,h2⟩,h3⟩,h4⟩:=hf
   simp only [Shs.size] at hl
   obtain ⟨x,hx⟩:=h f (by simp)
   obtain ⟨y1,w1,l1,r1⟩:=open_sh s f.type fuel _ x h3 hx
   obtain ⟨y2,w2,r2⟩:=open_shs r q (n0 + s.size) fuel cs h4 (fun f' hm=>h f' (List.mem_cons_of_mem _ hm)) (by omega)
   refine ⟨(y1,y2),⟨w1,w2⟩,fun j c v hc hv=>?_⟩
   simp only [Shs.cells] at hc
   rcases Nat.lt_or_ge j s.size with hj | hj
   ·rw [List.getElem?_append_left (by rw [Sh.cells_size]; exact hj)] at hc
    refine r1 j c v hc ?_
    rw [h1,h2,List.getElem?_take,if_pos hj,List.getElem?_drop]
    exact hv
   ·rw [List.getElem?_append_right (by rw [Sh.cells_size]; exact hj),Sh.cells_size] at hc
    refine r2 _ c v hc ?_
    rw [show n0 + s.size + (j - s.size)=n0 + j by omega]
    exact hv
theorem open_sha:(fs:Shs)→∀ (u:TypeId) (n i0 fuel:Nat) (cs:List Value),fitsA P fs u n=true →
  (∀ i,i < n→∃ x:DataW H × List MemPlace,DataW.trod enc P w base spare held fuel u ((cs.drop ((i0 + i) * P.cellsOf u)).take (P.cellsOf u))=some x)→i0 * P.cellsOf u + fs.size≤cs.length →
  ∃ y:fs.ty,Wfs fs y∧∀ (j:Nat) c v,(fs.cells y)[j]?=some c→cs[i0 * P.cellsOf u + j]?=some v→Rep [] (gA w) w c v
 | .nil,u,n,i0,fuel,cs,hf,h,hl=>⟨(),trivial,fun j c v hc=>by simp [Shs.cells] at hc⟩
 | .cons s r,u,0,i0,fuel,cs,hf,h,hl=>by simp [fitsA] at hf
 | .cons s r,u,n + 1,i0,fuel,cs,hf,h,hl=>by
   simp only [fitsA,Bool.and_eq_true,decide_eq_true_eq] at hf
   obtain ⟨⟨h2,h3⟩,h4⟩:=hf
   simp only [Shs.size] at hl
   obtain ⟨x,hx⟩:=h 0 (by omega)
   obtain ⟨y1,w1,l1,r1⟩:=open_sh s u fuel _ x h3 hx
   have hm:(i0 + 1) * P.cellsOf u=i0 * P.cellsOf u + s.size:=by rw [Nat.add_mul,Nat.one_mul,h2]
   obtain ⟨y2,w2,r2⟩:=open_sha r u n (i0 + 1) fuel cs h4 (fun i hi=>by
    have:=h (i + 1) (by omega)
    rwa [show i0 + (i + 1)=i0 + 1 + i by omega] at this) (by rw [hm]; omega)
   refine ⟨(y1,y2),⟨w1,w2⟩,fun j c v hc hv=>?_⟩
   simp only [Shs.cells] at hc
   rcases Nat.lt_or_ge j s.size with hj | hj
   ·rw [List.getElem?_append_left (by rw [Sh.cells_size]; exact hj)] at hc
    refine r1 j c v hc ?_
    rw [h2,Nat.add_zero,List.getElem?_take,if_pos hj,List.getElem?_drop,← h2]
    exact hv
   ·rw [List.getElem?_append_right (by rw [Sh.cells_size]; exact hj),Sh.cells_size] at hc
    refine r2 _ c v hc ?_
    rw [hm,show i0 * P.cellsOf u + s.size + (j - s.size)=i0 * P.cellsOf u + j by omega]
    exact hv
end
end
open Go.ChangeAt Go.ChangeShapes Go.WideShapes
theorem own_knob:ownKnob Try.prog.godebug=none:=by kernel_rfl
theorem laid_out:laidOutB Try.prog=true:=by kernel_rfl
theorem post_of_below {H:Type} {enc:TypeId × Value→H} {P:Program} {f:Func} {s:ChangeSpec} {apart fresh handsOn again:Bool} {W W':World} {args:Array Value} {v:Value} {ds gs:List (DataW H)} {before pa pv:List MemPlace}
  (hW:DataW.Whole enc P f.params.toList s.vars apart W args.toList ds gs before)
  (hres:∀ (b:Nat) (sp:Nat→Bool) (hd:Bool),DataW.TrodAll enc P W' b sp hd f.resultTypes.toList (v.resultList f.resultTypes.size) (s.fn H (ds++gs)).results [])
  (hargs:∀ sp:Nat→Bool,(∀ p∈before,sp p.block=true)→DataW.TrodAll enc P W' 0 sp true f.params.toList args.toList (s.fn H (ds++gs)).args pa)
  (hvars:∀ sp:Nat→Bool,(∀ p∈before,sp p.block=true)→DataW.TrodVars enc P W' sp s.vars (s.fn H (ds++gs)).vars pv)
  (hps:before=pa++pv) (hb:Below W.heap.size W W')
  (hok:∀ (j:Nat) (t:TypeId) (r:Value),f.resultTypes[j]?=some t→(v.resultList f.resultTypes.size)[j]?=some r→Value.okWide P W' .any 0 t r) :
  s.post enc P f apart fresh handsOn again W args v W':=by
 have hold:∀ p∈before,(fun b=>decide (b < W.heap.size)) p.block=true:=fun p hp=>by simpa using hW.lt p hp
 have hlt:=hW.lt
 refine ⟨ds,gs,before,[],pa,pv,hW,hres _ _ _,hargs _ hold,hvars _ hold,hb.frame _,fun _=>?_⟩
 obtain ⟨_,_,_,_,_,hz,hn⟩:=hW
 refine ⟨hok,_,_,([]++pa)++pv,⟨[]++pa,pv,trodAll_append (hargs _ (fun _ _=>rfl)) (hres _ _ _),hvars _ (fun _ _=>rfl),rfl,?_,?_⟩,?_⟩
 ·intro b off hp
  have hm:MemPlace.cell b off∈before:=by rw [hps]; simpa using hp
  rw [hb.frozen (p:=⟨b,off,none⟩) (hlt _ hm)]
  exact hz b off hm
 ·intro ha
  have:=hn ha
  rw [hps] at this
  simpa using this
 ·intro p hp _
  rw [hps]
  simpa using hp
def Shs.vals:(fs:Shs)→fs.ty→List AVal
 | .nil,_=>[]
 | .cons s r,x=>s.val x.1 :: r.vals x.2
def fitsT (P:Program):Shs→List TypeId→Bool
 | .nil,[]=>true
 | .cons s r,t :: q=>fitB P s t&&(P.readableRec t&&decide (t < P.types.size))&&fitsT P r q
 | _,_=>false
section
variable {P:Program} {H:Type} {enc:TypeId × Value→H} {w:World} {base:Nat} {spare:Nat→Bool} {held:Bool}
theorem open_arg {s:Sh} {t:TypeId} {v:Value} {d:DataW H} {ps:List MemPlace} {r:Reach} {b0:Nat} (hf:fitB P s t=true) (hv:Value.okWide P w r b0 t v) (h:DataW.Trod enc P w base spare held t v d ps) :
  ∃ y:s.ty,Wf s y∧Rep [] (gA w) w (s.val y) v:=by
 obtain ⟨fuel,h⟩:=h
 obtain ⟨y,h1,h2,h3⟩:=open_sh s t fuel _ _ hf h
 refine ⟨y,h1,?_⟩
 have one:(∀ a,v≠.agg a)→s.cells y=[s.val y]→Rep [] (gA w) w (s.val y) v:=fun hn hc=>by
  have hcv:v.cells.toList=[v]:=by cases v<;>first | rfl | exact absurd rfl (hn _)
  exact h3 0 _ v (by rw [hc]; rfl) (by rw [hcv]; rfl)
 cases s with
 | recd fs=>
   simp only [fitB] at hf
   split at hf
   ·rename_i l hu
    simp only [Value.okWide,hu] at hv
    obtain ⟨cs,rfl,_⟩:=hv
    refine .agg _ _ ((Sh.cells_size (.recd fs) y).trans (by simpa [Value.cells] using h2.symm)) fun j c x hc hx=>h3 j c x hc (by simpa [Value.cells] using hx)
   ·rename_i n u hu
    simp only [Value.okWide,hu] at hv
    obtain ⟨cs,rfl,_⟩:=hv
    refine .agg _ _ ((Sh.cells_size (.recd fs) y).trans (by simpa [Value.cells] using h2.symm)) fun j c x hc hx=>h3 j c x hc (by simpa [Value.cells] using hx)
   ·cases hf
 | int k=>
   refine one (fun a e=>?_) rfl
   subst e
   simp only [fitB] at hf
   split at hf
   ·rename_i j hu
    simp [Value.okWide,hu,Cell.okWide,Cell.ok] at hv
   ·cases hf
 | bool=>
   refine one (fun a e=>?_) rfl
   subst e
   simp only [fitB] at hf
   split at hf
   ·rename_i hu
    simp [Value.okWide,hu,Cell.okWide,Cell.ok] at hv
   ·cases hf
 | str=>
   refine one (fun a e=>?_) rfl
   subst e
   simp only [fitB] at hf
   split at hf
   ·rename_i hu
    simp [Value.okWide,hu,Cell.okWide,Cell.ok] at hv
   ·cases hf
 | mp k v=>simp [fitB] at hf
 | sl e0=>
   refine one (fun a e=>?_) rfl
   subst e
   simp only [fitB] at hf
   split at hf
   ·rename_i u hu
    simp [Value.okWide,hu,Cell.okWide,Cell.ok] at hv
   ·cases hf
theorem open_all {r:Reach} {b0:Nat}:∀ (ss:Shs) (ts:List TypeId) (vs:List Value) (ds:List (DataW H)) (ps:List MemPlace),fitsT P ss ts=true→DataW.TrodAll enc P w base spare held ts vs ds ps →
  (∀ (j:Nat) t v,ts[j]?=some t→vs[j]?=some v→Value.okWide P w r b0 t v) →
  ∃ ys:ss.ty,Wfs ss ys∧(ss.vals ys).length=vs.length∧ds.length=ts.length∧∀ (j:Nat) c v,(ss.vals ys)[j]?=some c→vs[j]?=some v→Rep [] (gA w) w c v
 | .nil,[],vs,ds,ps,hf,h,hv=>by
   obtain ⟨rfl,rfl,rfl⟩:=trodAll_nil h
   exact ⟨(),trivial,rfl,rfl,fun j c v hc=>by simp [Shs.vals] at hc⟩
 | .cons s q,[],vs,ds,ps,hf,h,hv=>by simp [fitsT] at hf
 | .nil,_ :: _,vs,ds,ps,hf,h,hv=>by simp [fitsT] at hf
 | .cons s q,t :: ts,vs,ds,ps,hf,h,hv=>by
   simp only [fitsT,Bool.and_eq_true] at hf
   obtain ⟨v,vs',d,ds',p1,p2,rfl,rfl,rfl,h1,h2⟩:=trodAll_cons h
   obtain ⟨y,a1,a2⟩:=open_arg hf.1.1 (hv 0 t v rfl rfl) h1
   obtain ⟨ys,b1,b2,b3,b4⟩:=open_all q ts vs' ds' p2 hf.2 h2 fun j t v ht hv'=>hv (j + 1) t v (by simpa using ht) (by simpa using hv')
   refine ⟨(y,ys),⟨a1,b1⟩,by simp [Shs.vals,b2],by simp [b3],fun j c v hc hv'=>?_⟩
   cases j with
   | zero=>
     simp only [Shs.vals,List.getElem?_cons_zero,Option.some.injEq] at hc hv'
     subst hc; subst hv'; exact a2
   | succ j=>exact b4 j c v (by simpa [Shs.vals] using hc) (by simpa using hv')
theorem all_stays (hl:laidOutB P=true) {W W':World} {sp':Nat→Bool}:∀ (ss:Shs) (ts:List TypeId) (vs:List Value) (ds:List (DataW H)) (ps:List MemPlace),fitsT P ss ts=true→DataW.TrodAll enc P W base (fun _=>true) true ts vs ds ps →
  (∀ p∈ps,W.sameAt W' p)→(∀ p∈ps,sp' p.block=true)→DataW.TrodAll enc P W' base sp' true ts vs ds ps
 | .nil,[],vs,ds,ps,hf,h,_,_=>by
   obtain ⟨rfl,rfl,rfl⟩:=trodAll_nil h
   rfl
 | .cons s q,[],vs,ds,ps,hf,h,_,_=>by simp [fitsT] at hf
 | .nil,_ :: _,vs,ds,ps,hf,h,_,_=>by simp [fitsT] at hf
 | .cons s q,t :: ts,vs,ds,ps,hf,h,h1,h2=>by
   simp only [fitsT,Bool.and_eq_true,decide_eq_true_eq] at hf
   obtain ⟨v,vs',d,ds',p1,p2,rfl,rfl,rfl,a1,a2⟩:=trodAll_cons h
   exact ⟨p1,p2,WideElems.Trod_stays hl hf.1.2.1 hf.1.2.2 a1 (fun p hp=>h1 p (by simp [hp])) (fun p hp=>h2 p (by simp [hp])),
    all_stays hl q ts vs' ds' p2 hf.2 a2 (fun p hp=>h1 p (by simp [hp])) (fun p hp=>h2 p (by simp [hp])),rfl⟩
theorem law_post {F:List AVal→Option AOut} {fid:FuncId} {fn:Func} {s:ChangeSpec} {apart fresh handsOn again:Bool} (hF:FspOk P fid (toFsp F)) (hl:laidOutB P=true) (ss:Shs) (hfit:fitsT P ss fn.params.toList=true) (hnv:s.vars=[])
  {tb:TypeId} (hres:fn.resultTypes=#[tb]) (hb:P.underlying tb=some .bool) (hlaw:∀ ys:ss.ty,Wfs ss ys→F (ss.vals ys)=some (.ret (.bool true)))
  (hfn:∀ ds:List (DataW H),ds.length=fn.params.toList.length→(s.fn H ds).results=[.lit (.bool true)]∧(s.fn H ds).args=ds∧(s.fn H ds).vars=[])
  {W:World} {b0:Nat} {args:Array Value} {ds gs:List (DataW H)} {before:List MemPlace}
  (hval:∀ (j:Nat) t v,fn.params[j]?=some t→args[j]?=some v→Value.okWide P W .any b0 t v) (hW:DataW.Whole enc P fn.params.toList s.vars apart W args.toList ds gs before) :
  Calls P fid args W fun e W'=>∃ v,e=.returned v∧s.post enc P fn apart fresh handsOn again W args v W':=by
 have hW':=hW
 obtain ⟨p,q,hA,hV,rfl,hfz,hnd⟩:=hW
 rw [hnv] at hV
 obtain ⟨rfl,rfl⟩:=trodVars_none hV
 obtain ⟨ys,h1,h2,h3,h4⟩:=open_all ss _ _ _ _ hfit hA fun j t v ht hv=>hval j t v (by simpa using ht) (by simpa using hv)
 have hcall:=hF.calls (ss.vals ys) (.ret (.bool true)) (by unfold toFsp; rw [hlaw ys h1]) (fun b=>b < W.heap.size) W args (fun b hb=>hb) (by simpa using h2) fun j c x hc hx=>h4 j c x hc (by simpa using hx)
 refine hcall.mono fun e W' hp=>?_
 obtain ⟨M',_,_,_,hbl,x,rfl,hr⟩:=hp
 have:=rep_bool hr
 subst this
 obtain ⟨f1,f2,f3⟩:=hfn ds h3
 have hlt:∀ x∈p,x.block < W.heap.size:=fun x hx=>hW'.lt x (by simpa using hx)
 refine ⟨_,rfl,post_of_below (pa:=p++[]) (pv:=[]) hW' (fun b sp hd=>?_) (fun sp hsp=>?_) (fun sp hsp=>?_) (by simp) hbl (ok_one hres rfl (okWide_bool_mk hb _))⟩
 ·rw [List.append_nil,f1,hres]
  exact trodAll_mk1 (shut_bool hb _)
 ·rw [List.append_nil,f2,List.append_nil]
  exact all_stays hl ss _ _ _ _ hfit hA (fun x hx=>hbl.same (hlt x hx)) fun x hx=>hsp x (by simpa using hx)
 ·rw [List.append_nil,f3,hnv]
  rfl
end
end Go.Proofs.Ytneggblnfobfcaa
namespace Go.Proofs.Ytneggblnfobfcaa
open Go.RowKit
def WpR (P:Program) (c:Code) (Q:Exit→Act→World→Prop) (a:Act) (w:World):Prop:=∀ b:Frame,FnIn b.fn→b.roundOf=none→WpB b P c Q a w
theorem wpB_mono {b:Frame} {P:Program} {c:Code} {Q Q':Exit→Act→World→Prop} {a:Act} {w:World} (h:WpB b P c Q a w) (f:∀ e a w,Q e a w→Q' e a w):WpB b P c Q' a w:=fun k cs=>
 let ⟨e,a',w',q,r⟩:=h k cs
 ⟨e,a',w',f e a' w' q,r⟩
section
variable {P:Program} {Q:Exit→Act→World→Prop} {a:Act} {w:World}
theorem wpR_seq {x y:Code} (h:WpR P x (Exit.then (WpR P y Q) Q) a w):WpR P (.seq x y) Q a w:=fun b hx hr=>wpB_seq (wpB_mono (h b hx hr) fun e a' w' q=>by
 cases e with
 | normal=>exact q b hx hr
 | _=>exact q)
theorem wpR_cond {o:Operand} {x y:Code} {t:Bool} (hc:a.eval o=.bool t) (h:WpR P (if t then x else y) Q a w):WpR P (.cond o x y) Q a w:=fun b hx hr=>wpB_cond hc (h b hx hr)
theorem wpR_block {id:Nat} {x:Code} (h:WpR P x (Exit.inBlock id Q) a w):WpR P (.block id x) Q a w:=fun b hx hr=>wpB_block (h b hx hr)
theorem wpR_exit {id:Nat} (h:Q (.exit id) a w):WpR P (.exit id) Q a w:=fun _ _ _=>wpB_of (wpIn_exit h)
theorem wpR_skip (h:Q .normal a w):WpR P .skip Q a w:=fun _ _ _=>wpB_of (wpIn_skip h)
theorem wpR_region {id:Nat} {ops:Array Oper} (h:wpOpsIn (FW none) 0 P ops Q (List.range ops.size) a w):WpR P (.region id ops false) Q a w:=fun b _ hr=>wpB_of (by rw [hr]; exact wpIn_region h)
theorem wpR_loop {c:Code} (I:Act→World→Prop) (μ:Act→World→Nat) (h0:I a w) (round:∀ a w,I a w→WpR P c (Exit.then (fun a' w'=>I a' w'∧μ a' w' < μ a w) Q) a w):WpR P (.loop c) Q a w:=fun b hx hr=>by
 have key:∀ m a w,μ a w < m→I a w→RoundsB b P c Q m a w:=by
  intro m
  induction m with
  | zero=>intro a w hm _; exact absurd hm (Nat.not_lt_zero _)
  | succ m ih=>
    intro a w hm hI
    exact wpB_mono (round a w hI b hx hr) fun e a' w' q=>by
     cases e with
     | normal=>exact ih a' w' (by have:=q.2; omega) q.1
     | _=>exact q
 exact wpB_loop _ (key (μ a w + 1) a w (Nat.lt_succ_self _) h0)
end
section
variable {P:Program} {T:Tab} {env:Env} {K0:Nat→Prop} {g0:Gh} {w0:World}
structure Mid (K0:Nat→Prop) (g0:Gh) (w0:World) (h:List ABlk) (tm:List AVal) (a:Act) (w:World) (K:Nat→Prop) (g:Gh):Prop where
 kk:∀ b,K0 b→K b
 st:St K h g w
 le:Le K0 [] g0 w0 h g w
 tr:TRep h g w tm a.tmps
 df:MRep K0 K g w a.defers
def keepT (keep:List Nat):Nat→List AVal→List AVal
 | _,[]=>[]
 | i,v :: r=>(bif keep.contains i then v else .any) :: keepT keep (i + 1) r
theorem keepT_get (keep:List Nat):∀ (l:List AVal) (n j:Nat),(keepT keep n l)[j]?=l[j]?∨((keepT keep n l)[j]?=some .any∧j < l.length)
 | [],_,_=>.inl rfl
 | v :: r,n,0=>by
   rw [keepT]
   cases keep.contains n
   ·exact .inr ⟨rfl,Nat.succ_pos _⟩
   ·exact .inl rfl
 | v :: r,n,j + 1=>by
   rw [keepT,List.getElem?_cons_succ,List.getElem?_cons_succ]
   exact (keepT_get keep r (n + 1) j).imp id fun h=>⟨h.1,Nat.succ_lt_succ h.2⟩
theorem keepT_len (keep:List Nat):∀ (l:List AVal) (n:Nat),(keepT keep n l).length=l.length
 | [],_=>rfl
 | v :: r,n=>by rw [keepT,List.length_cons,keepT_len keep r,List.length_cons]
theorem Mid.weak {h tm a w K g} (m:Mid K0 g0 w0 h tm a w K g) (keep:List Nat):Mid K0 g0 w0 h (keepT keep 0 tm) a w K g:=
 ⟨m.kk,m.st,m.le,⟨by rw [keepT_len]; exact m.tr.1,fun j c x hc hx=>by
  rcases keepT_get keep tm 0 j with e | ⟨e,_⟩
  ·rw [e] at hc; exact m.tr.2 j c x hc hx
  ·rw [e] at hc; cases hc; exact .any x⟩,m.df⟩
theorem Mid.turn {h tm a w K g} (m:Mid K0 g0 w0 h tm a w K g) {w':World} {r:Nat} (hos:w'.os=w.os) (hta:w'.tape=w.tape) (hou:w'.output=w.output) (hsz:w.heap.size≤w'.heap.size) (hw:∀ n,n < w.heap.size→n≠r→w'.heap[n]?=w.heap[n]?)
  (h1:¬ K r) (h2:¬ g.M r) (h3:∀ i,alive h i→blockOf (g.ρ i)≠some r):Mid K0 g0 w0 h tm a w' K g:=by
 have l:Le K h g w h g w':=⟨Nat.le_refl _,fun _ h=>h,fun _ h=>h,fun _ h=>.inl h,fun b hb=>hw b (m.st.low b hb) fun e=>h2 (e ▸ hb),fun b hb=>hw b (m.st.klow b hb) fun e=>h1 (e ▸ hb),fun _ wr cs' _ h=>⟨wr,cs',h,rfl,rfl⟩,fun _ wr _ _ xs' _ h=>⟨wr,xs',h,fun _=>rfl,rfl⟩,fun _ st pend _ _ _ _ _ h=>⟨st,pend,h,rfl⟩,fun _ _ h=>h,fun _ _ _ _ h=>h,hos,hta,hou,hsz⟩
 refine ⟨m.kk,⟨fun i b hb=>(m.st.blk i b hb).mono l rfl fun n hd hn=>?_,m.st.inj,fun i b ha hb=>?_,fun b hb=>Nat.lt_of_lt_of_le (m.st.low b hb) hsz,fun b hb=>Nat.lt_of_lt_of_le (m.st.klow b hb) hsz⟩,m.le.trans (l.less m.kk),m.tr.mono l,m.df.mono l⟩
 ·exact hw n (m.st.sep i n ⟨b,hb,hd⟩ hn).2.2 fun e=>h3 i ⟨b,hb,hd⟩ (e ▸ hn)
 ·obtain ⟨q1,q2,q3⟩:=m.st.sep i b ha hb
  exact ⟨q1,q2,Nat.lt_of_lt_of_le q3 hsz⟩
theorem Mid.lock {h tm a w K g} (m:Mid K0 g0 w0 h tm a w K g) {r:Nat} (hr:r < w.heap.size) (h3:∀ i,alive h i→blockOf (g.ρ i)≠some r):Mid K0 g0 w0 h tm a w (fun b=>K b∨b=r) g:=
 ⟨fun b hb=>.inl (m.kk b hb),⟨m.st.blk,m.st.inj,fun i b ha hb=>by
  obtain ⟨q1,q2,q3⟩:=m.st.sep i b ha hb
  exact ⟨fun h=>h.elim q1 fun e=>h3 i ha (e ▸ hb),q2,q3⟩,m.st.low,fun b hb=>hb.elim (m.st.klow b) fun e=>e ▸ hr⟩,m.le,m.tr,m.df.more fun b hb=>.inl hb⟩
theorem Mid.put {h tm a w K g} (m:Mid K0 g0 w0 h tm a w K g) (dst:Option Nat) {v:AVal} {x:Value} (r:Rep h g w v x):Mid K0 g0 w0 h ((⟨tm,h⟩:AS).put dst v).tmps (a.put dst x) w K g:=
 ⟨m.kk,m.st,m.le,TRep.put (s:=⟨tm,h⟩) m.tr dst r,by rw [put_defers]; exact m.df⟩
theorem wpOps_cons {ops:Array Oper} {o:Oper} {i:Nat} {l:List Nat} {a:Act} {w:World} {Q:Exit→Act→World→Prop} (h:ops[i]?=some o) (hg:o.guard=none) (hw:o.wpIn (FW none) 0 P a w (wpOpsIn (FW none) 0 P ops Q l) Q):wpOpsIn (FW none) 0 P ops Q (i :: l) a w:=by
 simp only [wpOpsIn,h]
 rw [if_pos (by simp [Region.wanted,hg])]
 exact hw
end
theorem put_getD (a:Act) (dst:Option Nat) (v:Value) {t:Nat} (h:dst≠some t):(a.put dst v).tmps.getD t Go.undef=a.tmps.getD t Go.undef:=by
 cases dst with
 | none=>rfl
 | some d=>
   have hd:d≠t:=fun e=>h (e ▸ rfl)
   show (a.tmps.setIfInBounds d v).getD t Go.undef=_
   rw [Array.getD_eq_getD_getElem?,Array.getD_eq_getD_getElem?,Array.getElem?_setIfInBounds,if_neg hd]
theorem put_getD_same (a:Act) (d:Nat) (v:Value) (h:d < a.tmps.size):(a.put (some d) v).tmps.getD d Go.undef=v:=by
 show (a.tmps.setIfInBounds d v).getD d Go.undef=_
 rw [Array.getD_eq_getD_getElem?,Array.getElem?_setIfInBounds,if_pos rfl,if_pos h]; rfl
theorem put_size (a:Act) (dst:Option Nat) (v:Value):(a.put dst v).tmps.size=a.tmps.size:=by
 cases dst with
 | none=>rfl
 | some d=>show (a.tmps.setIfInBounds d v).size=_; exact Array.size_setIfInBounds
section
variable {K0:Nat→Prop} {g0:Gh} {w0:World}
theorem Mid.one {h tm a w K g} (m:Mid K0 g0 w0 h tm a w K g) {i:Nat} {t:TypeId} {e:Sh} {xs:List e.ty} (h0:0 < e.size) (hf:∀ x,∀ c∈e.cells x,c.flat0=true) (hi:h[i]?=some (.row true t e xs)) {tm':List AVal}
  (ht:TRep [.row true t e xs] ⟨fun _=>g.ρ i,g.M⟩ w tm' a.tmps):Mid K0 g0 w0 [.row true t e xs] tm' a w K ⟨fun _=>g.ρ i,g.M⟩:=by
 have al:alive h i:=⟨_,hi,by simp⟩
 have one:∀ (j:Nat) (b:ABlk),([.row true t e xs]:List ABlk)[j]?=some b→b=.row true t e xs:=fun j b hb=>by
  cases j with
  | zero=>simpa using hb.symm
  | succ j=>simp at hb
 have aj:∀ j:Nat,alive [.row true t e xs] j→j=0:=fun j ⟨b,hb,_⟩=>by
  cases j with
  | zero=>rfl
  | succ j=>simp at hb
 refine ⟨m.kk,⟨fun j b hb=>?_,fun j k b hj hk _ _=>by rw [aj j hj,aj k hk],fun j b hj hb=>m.st.sep i b al hb,m.st.low,m.st.klow⟩,?_,ht,m.df⟩
 ·rw [one j b hb]
  obtain ⟨vs,h1,h2⟩:=(rowOk_iff h0).1 (m.st.blk i _ hi)
  refine (rowOk_iff (h:=[.row true t e xs]) (g:=⟨fun _=>g.ρ i,g.M⟩) h0).2 ⟨vs,h1,fun n x j c hx hc=>?_⟩
  obtain ⟨u,q1,q2⟩:=h2 n x j c hx hc
  exact ⟨u,q1,rep_flat0 q2 (hf x c (List.mem_of_getElem? hc))⟩
 ·have l:=m.le
  exact ⟨Nat.zero_le _,fun j hj=>absurd hj.lt (Nat.not_lt_zero j),l.m,l.new,l.mw,l.k,fun j _ _ hj=>absurd hj.lt (Nat.not_lt_zero j),fun j _ _ _ _ hj=>absurd hj.lt (Nat.not_lt_zero j),fun j _ _ _ _ _ _ hj=>absurd hj.lt (Nat.not_lt_zero j),fun j _ hj=>by simp at hj,fun j _ _ _ hj=>by simp at hj,l.os,l.tape,l.output,l.size⟩
theorem Mid.stay {h tm a w K g} (m:Mid K0 g0 w0 h tm a w K g) {i b:Nat} (hi:alive h i) (hb:blockOf (g.ρ i)=some b) {tm':List AVal} (ht:TRep [.dead] ⟨g.ρ,fun n=>g.M n∨n=b⟩ w tm' a.tmps):Mid K0 g0 w0 [.dead] tm' a w K ⟨g.ρ,fun n=>g.M n∨n=b⟩:=by
 obtain ⟨s1,s2,s3⟩:=m.st.sep i b hi hb
 have dd:∀ j:Nat,¬ alive [.dead] j:=fun j ⟨c,hc,hn⟩=>by
  cases j with
  | zero=>simp at hc; exact hn hc.symm
  | succ j=>simp at hc
 have l:=m.le
 refine ⟨m.kk,⟨fun j c hc=>?_,fun j k _ hj=>absurd hj (dd j),fun j _ hj=>absurd hj (dd j),fun n hn=>hn.elim (m.st.low n) fun e=>e ▸ s3,m.st.klow⟩,⟨Nat.zero_le _,fun j hj=>absurd hj.lt (Nat.not_lt_zero j),fun n hn=>.inl (l.m n hn),fun n hn=>hn.elim (l.new n) fun e=>.inr fun hk=>s1 (e ▸ m.kk n hk),l.mw,l.k,fun j _ _ hj=>absurd hj.lt (Nat.not_lt_zero j),fun j _ _ _ _ hj=>absurd hj.lt (Nat.not_lt_zero j),fun j _ _ _ _ _ _ hj=>absurd hj.lt (Nat.not_lt_zero j),fun j _ hj=>by simp at hj,fun j _ _ _ hj=>by simp at hj,l.os,l.tape,l.output,l.size⟩,ht,?_⟩
 ·cases j with
  | zero=>simp at hc; subst hc; trivial
  | succ j=>simp at hc
 ·obtain ⟨rs,n1,n2,n3⟩:=m.df
  refine ⟨rs,n1,n2,fun r hr=>?_⟩
  obtain ⟨q1,q2,q3,q4⟩:=n3 r hr
  exact ⟨q1,q2,fun h=>h.elim q3 fun e=>s1 (e ▸ q1),q4⟩
structure FspNew (P:Program) (f:FuncId) (S:Fsp):Prop where
 enter:∀ args w,(callFunc f args).run P w=.ok (.enter f args) w
 nat:∀ (α:Type) args (k:AOut→Option α),S α args k=(S AOut args some).bind k
 calls:∀ args out,S AOut args some=some out→∀ (M:Nat→Prop) w (cargs:Array Value),(∀ b,M b→b < w.heap.size)→args.length=cargs.size →
  (∀ (j:Nat) c x,args[j]?=some c→cargs[j]?=some x→Rep [] ⟨fun _=>Go.undef,M⟩ w c x)→Calls P f cargs w (CPost (fun _=>False) w out)
theorem CPost.more {M:Nat→Prop} {w:World} {out:AOut} {e:Ending} {w':World} (hM:∀ b,M b→b < w.heap.size) (h:CPost (fun _=>False) w out e w'):CPost M w out e w':=by
 obtain ⟨M',m1,m2,m3,hb,ho⟩:=h
 refine ⟨fun b=>M b∨M' b,fun _ h=>.inl h,fun b h=>h.elim .inl fun h=>(m2 b h).elim (fun f=>f.elim) .inr,fun b h=>h.elim (fun h=>Nat.lt_of_lt_of_le (hM b h) hb.size) (m3 b),hb,?_⟩
 cases out with
 | ret v=>obtain ⟨x,e1,e2⟩:=ho; exact ⟨x,e1,rep_nil e2 fun _ h=>.inr h⟩
 | pan v=>obtain ⟨x,e1,e2⟩:=ho; exact ⟨x,e1,rep_nil e2 fun _ h=>.inr h⟩
theorem FspNew.ok {P:Program} {f:FuncId} {S:Fsp} (h:FspNew P f S):FspOk P f S:=
 ⟨h.enter,h.nat,fun args out ho M w cargs hM hl hr=>(h.calls args out ho M w cargs hM hl hr).mono fun e w' hp=>hp.more hM⟩
end
/-! Slots that stay. -/
theorem opIn_keep {F:Fence} {n:Nat} {P:Program} {o:Oper} {a:Act} {w:World} {nx nx':Act→World→Prop} {Q Q':Exit→Act→World→Prop} {S:List Nat} (hd:∀ t∈S,o.dst≠some t) (h:o.wpIn F n P a w nx Q)
  (hn:∀ a' w',nx a' w'→(∀ t∈S,a'.tmps.getD t Go.undef=a.tmps.getD t Go.undef)→nx' a' w') (hq:∀ e a' w',e≠.normal→Q e a' w'→Q' e a' w'):o.wpIn F n P a w nx' Q':=by
 refine ⟨h.1,?_⟩
 obtain ⟨_,h2⟩:=h
 generalize (o.semAt F.round a.eval).run P w=r at h2
 have lo:LetsOut Q→LetsOut Q':=fun ⟨a',w',h⟩=>⟨a',w',hq _ _ _ (by simp) h⟩
 have pd:∀ (a:Act) v,∀ t∈S,(a.put o.dst v).tmps.getD t Go.undef=a.tmps.getD t Go.undef:=fun a v t ht=>put_getD _ _ _ (hd t ht)
 unfold Oper.uponIn at h2 ⊢
 split at h2
 ·exact hn _ _ h2 (pd _ _)
 ·exact hn _ _ h2 (pd _ _)
 ·exact hn _ _ h2 (pd { a with defers:=_ } _)
 ·refine ⟨h2.1,CallsIn.mono h2.2 fun e w' he=>?_⟩
  cases e with
  | returned v=>exact hn _ _ he (pd _ _)
  | panicked c=>exact hq _ _ _ (by simp) he
  | outgrown=>exact lo he
 ·exact ⟨h2.1,RowsIn.mono h2.2 fun v w' he=>hn _ _ he (pd _ _)⟩
 ·refine ⟨h2.1,RoundIn.mono h2.2 fun e w' he=>?_⟩
  cases e with
  | returned v=>exact hn _ _ he (pd _ _)
  | panicked c=>exact hq _ _ _ (by simp) he
  | outgrown=>exact lo he
 ·exact hq _ _ _ (by simp) h2
 ·exact h2.elim
theorem opsIn_keep {F:Fence} {n:Nat} {P:Program} {ops:Array Oper} {Q Q':Exit→Act→World→Prop} {S:List Nat} {a0:Act} (hd:∀ (i:Nat) o,ops[i]?=some o→∀ t∈S,o.dst≠some t)
  (hn:∀ a' w',Q .normal a' w'→(∀ t∈S,a'.tmps.getD t Go.undef=a0.tmps.getD t Go.undef)→Q' .normal a' w') (hq:∀ e a' w',e≠.normal→Q e a' w'→Q' e a' w'):∀ (l:List Nat) (a:Act) (w:World),(∀ t∈S,a.tmps.getD t Go.undef=a0.tmps.getD t Go.undef)→wpOpsIn F n P ops Q l a w→wpOpsIn F n P ops Q' l a w
 | [],a,w,e,h=>hn a w h e
 | i :: r,a,w,e,h=>by
   unfold wpOpsIn at h ⊢
   split at h
   ·exact opsIn_keep hd hn hq r a w e h
   ·rename_i o ho
    split at h
    ·rename_i hw
     rw [if_pos hw]
     exact opIn_keep (hd i o ho) h (fun a' w' hx he=>opsIn_keep hd hn hq r a' w' (fun t ht=>(he t ht).trans (e t ht)) hx) hq
    ·rename_i hw
     rw [if_neg hw]
     exact ⟨h.1,opsIn_keep hd hn hq r _ _ (fun t ht=>(put_getD _ _ _ (hd i o ho t ht)).trans (e t ht)) h.2⟩
theorem pc {P:Program} {T:Tab} {env:Env} (hT:TabOk P T) (hE:EnvOk P env) {id:Nat} {ops:Array Oper} {h h2:List ABlk} {tm tm2:List AVal} (hp:evOps real T env false ops ops.toList ⟨tm,h⟩ pairE=some (.normal,⟨tm2,h2⟩))
  {S:List Nat} (hd:ops.toList.all (fun o=>S.all fun t=>o.dst != some t)=true) {a:Act} {w:World} {K:Nat→Prop} {g:Gh} {Q:Exit→Act→World→Prop} (st:St K h g w) (tr:TRep h g w tm a.tmps)
  (next:∀ a' w' g',St K h2 g' w'→Le K h g w h2 g' w'→TRep h2 g' w' tm2 a'.tmps→a'.defers=a.defers→(∀ t∈S,a'.tmps.getD t Go.undef=a.tmps.getD t Go.undef)→Q .normal a' w'):WpR P (.region id ops false) Q a w:=by
 refine wpR_region ?_
 have hr:List.range ops.size=List.range' 0 ops.toList.length:=by rw [List.range_eq_range',Array.length_toList]
 rw [hr]
 have hd':∀ (i:Nat) o,ops[i]?=some o→∀ t∈S,o.dst≠some t:=fun i o ho t ht e=>by
  have h1:=List.all_eq_true.1 hd o (List.mem_of_getElem? (by rw [Array.getElem?_toList]; exact ho))
  have h2:=List.all_eq_true.1 h1 t ht
  rw [e] at h2
  simp at h2
 exact opsIn_keep (Q:=fun e a' w'=>e=.normal∧∃ g',St K h2 g' w'∧Le K h g w h2 g' w'∧TRep h2 g' w' tm2 a'.tmps∧a'.defers=a.defers) (a0:=a) hd'
  (fun a' w' ⟨_,g',q1,q2,q3,q4⟩ e=>next a' w' g' q1 q2 q3 q4 e) (fun e a' w' hne hx=>absurd hx.1 hne) _ a w (fun _ _=>rfl)
  (evOps_wp hT hE false pairE h g w a.defers ⟨fun x st' g' a' w' e hk s l t hd xr=>by
   cases hk
   rw [xr_normal xr]
   exact ⟨rfl,g',s,l,t,hd⟩⟩ ops.toList 0 _ a w g rfl hp st .refl tr rfl)
theorem wpR_mono {P:Program} {c:Code} {Q Q':Exit→Act→World→Prop} {a:Act} {w:World} (h:WpR P c Q a w) (f:∀ e a w,Q e a w→Q' e a w):WpR P c Q' a w:=fun b hx hr=>wpB_mono (h b hx hr) f
/-! Slots, most of them forgotten. -/
def aS (n:Nat) (l:List (Nat × AVal)):List AVal:=l.foldl (fun t p=>t.set p.1 p.2) (List.replicate n .any)
theorem trep_any {h g w} {tmps:Array Value}:TRep h g w (List.replicate tmps.size .any) tmps:=
 ⟨List.length_replicate,fun j c x hc hx=>by
  rw [List.getElem?_replicate] at hc
  split at hc
  ·cases hc; exact .any x
  ·cases hc⟩
theorem trep_set {h g w} {t:List AVal} {tmps:Array Value} (r:TRep h g w t tmps) {d:Nat} {v:AVal} (q:Rep h g w v (tmps.getD d Go.undef)):TRep h g w (t.set d v) tmps:=
 ⟨by rw [List.length_set]; exact r.1,fun j c x hc hx=>by
  rw [List.getElem?_set] at hc
  by_cases e:d=j
  ·subst e
   rw [if_pos rfl] at hc
   split at hc
   ·cases hc
    have:tmps.getD d Go.undef=x:=by rw [Array.getD_eq_getD_getElem?,hx]; rfl
    rw [← this]; exact q
   ·cases hc
  ·rw [if_neg e] at hc
   exact r.2 j c x hc hx⟩
theorem trep_aS {h g w} {tmps:Array Value} {n:Nat} (hn:tmps.size=n) {l:List (Nat × AVal)} (hl:∀ p∈l,Rep h g w p.2 (tmps.getD p.1 Go.undef)):TRep h g w (aS n l) tmps:=by
 subst hn
 have key:∀ (l:List (Nat × AVal)) (t:List AVal),(∀ p∈l,Rep h g w p.2 (tmps.getD p.1 Go.undef))→TRep h g w t tmps→TRep h g w (l.foldl (fun t p=>t.set p.1 p.2) t) tmps:=by
  intro l
  induction l with
  | nil=>intro t _ r; exact r
  | cons p l ih=>intro t hl r; exact ih _ (fun q hq=>hl q (List.mem_cons_of_mem _ hq)) (trep_set r (hl p List.mem_cons_self))
 exact key l _ hl trep_any
theorem le_stay {g:Gh} {w w':World} (hM:∀ b,g.M b→w'.heap[b]?=w.heap[b]?) (os:w'.os=w.os) (ta:w'.tape=w.tape) (ou:w'.output=w.output) (sz:w.heap.size≤w'.heap.size):Le (fun _=>False) [] g w [] g w':=
 ⟨Nat.le_refl _,fun _ h=>h,fun _ h=>h,fun _ h=>.inl h,hM,fun _ h=>h.elim,fun _ wr cs' _ h=>⟨wr,cs',h,rfl,rfl⟩,fun _ wr _ _ xs' _ h=>⟨wr,xs',h,fun _=>rfl,rfl⟩,fun _ st pend _ _ _ _ _ h=>⟨st,pend,h,rfl⟩,fun _ _ h=>h,fun _ _ _ _ h=>h,os,ta,ou,sz⟩
theorem st_no {K:Nat→Prop} {g:Gh} {w:World} (low:∀ b,g.M b→b < w.heap.size) (klow:∀ b,K b→b < w.heap.size):St K [] g w:=
 ⟨fun i b h=>by simp at h,fun i j b ⟨c,h,_⟩=>by simp at h,fun i b ⟨c,h,_⟩=>by simp at h,low,klow⟩
/-! Regions that draw their order. -/
theorem take_y {P:Program} {ops:Array Oper} {Q0:Act→World→Prop} {fuel i d:Nat} {listed:Array Bool} {a:Act} {w:World} {o:Oper} {v:Value} (h:ops[i]?=some o∧o.guard=none∧o.dst=some d) (hs:Region.noSelect ops=true) (hf:Region.free .any ops listed i=true) (hr:(Region.ready .any ops listed).contains i=true)
  (hy:∀ w,(execOp a.eval o).run P w=.ok (.value v) w) (hab:∀ w,o.about P w a.eval=none) (h':wpAnyIn (FW none) 0 P .any ops (fun e a w=>e=.normal∧Q0 a w) fuel (listed.setIfInBounds i true) (a.put (some d) v) w) :
  wpAnyIn (FW none) 0 P .any ops (fun e a w=>e=.normal∧Q0 a w) (fuel + 1) listed a w:=
 wpAnyIn_take rfl h.1 hs hf hr (fun c a w hq=>by cases hq.1) ⟨.inl ⟨by simp [Region.wanted,h.2.1],hy⟩,hab⟩ (by rw [h.2.2]; exact h')
theorem any_step {P:Program} {ops:Array Oper} {Q:Exit→Act→World→Prop} {fuel:Nat} {listed:Array Bool} {a:Act} {w:World} {rs:List Nat} (hr:Region.ready .any ops listed=rs) (hne:rs≠[])
  (h:∀ i∈rs,∃ o,ops[i]?=some o∧o.guard=none∧o.wpIn (FW none) 0 P a w (wpAnyIn (FW none) 0 P .any ops Q fuel (listed.setIfInBounds i true)) Q):wpAnyIn (FW none) 0 P .any ops Q (fuel + 1) listed a w:=
 wpAnyIn_all hr hne fun i hi=>by
  obtain ⟨o,h1,h2,h3⟩:=h i hi
  unfold wpOpIn
  rw [h1]
  simp only
  rw [if_pos (by simp [Region.wanted,h2])]
  exact h3
theorem wp_val {P:Program} {o:Oper} {a:Act} {w w':World} {x:Value} {next:Act→World→Prop} {Q:Exit→Act→World→Prop} (h:(execOp a.eval o).run P w=.ok (.value x) w') (hn:next (a.put o.dst x) w'):o.wpIn (FW none) 0 P a w next Q:=wp_value h hn
/-! The code. -/
def fcTl:Code→Code | .seq _ b=>b | c=>c
def fcHd:Code→Code | .seq a _=>a | c=>c
def fcIn:Code→Code | .block _ c=>c | .loop c=>c | c=>c
def fcOps:Code→Array Oper | .region _ o _=>o | _=>#[]
def fcOp (ops : Array Oper) (i : Nat) : Oper := (ops[i]?).getD { dst := none, op := .move (.tmp 0), type := 0, pos := "", after := #[], guard := none }
noncomputable def cpA:Code:=(Try.f15.body).getD .ret
noncomputable def cpM:Code:=fcHd (fcTl (fcTl cpA))
noncomputable def cpL1:Code:=fcIn (fcIn (fcTl cpM))
noncomputable def cpB:Code:=fcIn (fcHd (fcTl (fcTl cpL1)))
noncomputable def cpL2:Code:=fcIn (fcIn (fcTl (fcTl cpB)))
noncomputable def cpB3:Code:=fcIn (fcHd (fcTl (fcTl cpL2)))
noncomputable def cp0:Array Oper:=fcOps (fcHd cpA)
noncomputable def cp1:Array Oper:=fcOps (fcHd (fcTl cpA))
noncomputable def cp2:Array Oper:=fcOps (fcHd cpM)
noncomputable def cp3:Array Oper:=fcOps (fcHd cpL1)
noncomputable def cp4:Array Oper:=fcOps (fcHd cpB)
noncomputable def cp5:Array Oper:=fcOps (fcHd (fcTl cpB))
noncomputable def cp6:Array Oper:=fcOps (fcHd cpL2)
noncomputable def cp7:Array Oper:=fcOps (fcHd cpB3)
noncomputable def cp8:Array Oper:=fcOps (fcTl cpB3)
noncomputable def cp9:Array Oper:=fcOps (fcTl (fcTl (fcTl cpL2)))
noncomputable def cp10:Array Oper:=fcOps (fcTl (fcTl (fcTl cpL1)))
noncomputable def cp11:Array Oper:=fcOps (fcHd (fcTl (fcTl (fcTl cpA))))
theorem cpA_eq:cpA=.seq (.region 0 cp0 false) (.seq (.region 1 cp1 false) (.seq (.seq (.region 2 cp2 false) (.block 0 (.loop cpL1))) (.seq (.region 11 cp11 false) .ret))):=by kernel_rfl
theorem cpL1_eq:cpL1=.seq (.region 3 cp3 false) (.seq (.cond (.tmp 14) .skip (.exit 0)) (.seq (.block 1 (.seq (.region 4 cp4 false) (.seq (.region 5 cp5 false) (.block 2 (.loop cpL2))))) (.region 10 cp10 false))):=by kernel_rfl
theorem cpL2_eq:cpL2=.seq (.region 6 cp6 false) (.seq (.cond (.tmp 20) .skip (.exit 2)) (.seq (.block 3 (.seq (.region 7 cp7 false) (.region 8 cp8 true))) (.region 9 cp9 false))):=by kernel_rfl
noncomputable def fsF0:FuncId→Option Fsp:=fun _=>none
theorem fsF0_ok:FsOk fsF0:=fs_nil
noncomputable def spF0:FuncId→Option (Cv→Cv):=fun _=>none
theorem spF0_ok:SpOk spF0:=sp_nil
abbrev LsA (A B:List (List Int)):AVal:=.agg [.ro LsSh A,.ro LsSh B]
abbrev fI:TypeId:=3
abbrev fR:TypeId:=57
abbrev fQ:TypeId:=22
theorem cp8_0:cp8[0]?=some (fcOp cp8 0)∧(fcOp cp8 0).guard=none∧(fcOp cp8 0).dst=some 23:=⟨by kernel_rfl,by kernel_rfl,by kernel_rfl⟩
theorem cp8_1:cp8[1]?=some (fcOp cp8 1)∧(fcOp cp8 1).guard=none∧(fcOp cp8 1).dst=some 24:=⟨by kernel_rfl,by kernel_rfl,by kernel_rfl⟩
theorem cp8_2:cp8[2]?=some (fcOp cp8 2)∧(fcOp cp8 2).guard=none∧(fcOp cp8 2).dst=some 25:=⟨by kernel_rfl,by kernel_rfl,by kernel_rfl⟩
theorem cp8_3:cp8[3]?=some (fcOp cp8 3)∧(fcOp cp8 3).guard=none∧(fcOp cp8 3).dst=some 26:=⟨by kernel_rfl,by kernel_rfl,by kernel_rfl⟩
theorem cp8_4:cp8[4]?=some (fcOp cp8 4)∧(fcOp cp8 4).guard=none∧(fcOp cp8 4).dst=some 27:=⟨by kernel_rfl,by kernel_rfl,by kernel_rfl⟩
theorem cp8_5:cp8[5]?=some (fcOp cp8 5)∧(fcOp cp8 5).guard=none∧(fcOp cp8 5).dst=some 28:=⟨by kernel_rfl,by kernel_rfl,by kernel_rfl⟩
theorem cp8_6:cp8[6]?=some (fcOp cp8 6)∧(fcOp cp8 6).guard=none∧(fcOp cp8 6).dst=some 29:=⟨by kernel_rfl,by kernel_rfl,by kernel_rfl⟩
theorem cp8_7:cp8[7]?=some (fcOp cp8 7)∧(fcOp cp8 7).guard=none∧(fcOp cp8 7).dst=some 30:=⟨by kernel_rfl,by kernel_rfl,by kernel_rfl⟩
theorem cp8_8:cp8[8]?=some (fcOp cp8 8)∧(fcOp cp8 8).guard=none∧(fcOp cp8 8).dst=some 31:=⟨by kernel_rfl,by kernel_rfl,by kernel_rfl⟩
theorem cp8_9:cp8[9]?=some (fcOp cp8 9)∧(fcOp cp8 9).guard=none∧(fcOp cp8 9).dst=some 32:=⟨by kernel_rfl,by kernel_rfl,by kernel_rfl⟩
theorem cp8_10:cp8[10]?=some (fcOp cp8 10)∧(fcOp cp8 10).guard=none∧(fcOp cp8 10).dst=some 33:=⟨by kernel_rfl,by kernel_rfl,by kernel_rfl⟩
theorem cp8_11:cp8[11]?=some (fcOp cp8 11)∧(fcOp cp8 11).guard=none∧(fcOp cp8 11).dst=some 34:=⟨by kernel_rfl,by kernel_rfl,by kernel_rfl⟩
theorem cp8_12:cp8[12]?=some (fcOp cp8 12)∧(fcOp cp8 12).guard=none∧(fcOp cp8 12).dst=none:=⟨by kernel_rfl,by kernel_rfl,by kernel_rfl⟩
theorem cp8_0o:(fcOp cp8 0).op=.move (.tmp 4):=by kernel_rfl
theorem cp8_1o:(fcOp cp8 1).op=.move (.tmp 4):=by kernel_rfl
theorem cp8_2o:(fcOp cp8 2).op=.fieldAddr 25 (.tmp 3) 1:=by kernel_rfl
theorem cp8_3o:(fcOp cp8 3).op=.indexAddr 23 (.tmp 25) (.tmp 24):=by kernel_rfl
theorem cp8_4o:(fcOp cp8 4).op=.load fQ (.tmp 26):=by kernel_rfl
theorem cp8_5o:(fcOp cp8 5).op=.buildSlice fR 0 #[]:=by kernel_rfl
theorem cp8_6o:(fcOp cp8 6).op=.move (.tmp 7):=by kernel_rfl
theorem cp8_7o:(fcOp cp8 7).op=.call { callee:=.builtin .append,args:=#[.tmp 28,.tmp 29],argTypes:=#[fR,fR] }:=by kernel_rfl
theorem cp8_8o:(fcOp cp8 8).op=.buildSlice fQ 1 #[(0,.tmp 30)]:=by kernel_rfl
theorem cp8_9o:(fcOp cp8 9).op=.call { callee:=.builtin .append,args:=#[.tmp 27,.tmp 31],argTypes:=#[fQ,fQ] }:=by kernel_rfl
theorem cp8_10o:(fcOp cp8 10).op=.fieldAddr 25 (.tmp 3) 1:=by kernel_rfl
theorem cp8_11o:(fcOp cp8 11).op=.indexAddr 23 (.tmp 33) (.tmp 23):=by kernel_rfl
theorem cp8_12o:(fcOp cp8 12).op=.store fQ (.tmp 34) (.tmp 32):=by kernel_rfl
theorem cp8_size:cp8.size=13:=by kernel_rfl
theorem cp8_sel:Region.noSelect cp8=true:=by kernel_rfl
/-! What the operations do. -/
theorem fa_run (bx:Nat) (w:World):(Instr.fieldAt 25 (.pointer (some ⟨bx,0,none⟩)) 1).run Try.prog w=.ok (.pointer (some ⟨bx,1,none⟩)) w:=by kernel_rfl
theorem ia_run0 (bx:Nat) (w:World):(Instr.indexAt 23 (.pointer (some ⟨bx,1,none⟩)) (.int .i64 ((0:Nat):Int))).run Try.prog w=.ok (.pointer (some ⟨bx,1 + 0,none⟩)) w:=by kernel_rfl
theorem ia_run1 (bx:Nat) (w:World):(Instr.indexAt 23 (.pointer (some ⟨bx,1,none⟩)) (.int .i64 ((1:Nat):Int))).run Try.prog w=.ok (.pointer (some ⟨bx,1 + 1,none⟩)) w:=by kernel_rfl
theorem ia_run (bx t:Nat) (ht:t < 2) (w:World):(Instr.indexAt 23 (.pointer (some ⟨bx,1,none⟩)) (.int .i64 (t:Int))).run Try.prog w=.ok (.pointer (some ⟨bx,1 + t,none⟩)) w:=by
 rcases (show t=0∨t=1 by omega) with rfl | rfl
 ·exact ia_run0 bx w
 ·exact ia_run1 bx w
theorem ld_run {w:World} {b o:Nat} {v:Value} (h:w.cell? ⟨b,o,none⟩=some v):(Instr.loadAt fQ (.pointer (some ⟨b,o,none⟩))).run Try.prog w=.ok v w:=by
 have hr:(isAgg fQ).run Try.prog w=.ok false w:=by kernel_rfl
 simp [Instr.loadAt,Instr.sureAddr,loadVar,hr,h]
theorem bs0_run (w:World):(Instr.buildSlice fR 0 #[]).run Try.prog w=.ok (.slice (some ⟨w.heap.size,0,none⟩) 0 0) (w.alloc (.cells #[] fI)):=by kernel_rfl
theorem bs1_run (w:World) (b n c:Nat):(Instr.buildSlice fQ 1 #[(0,.slice (some ⟨b,0,none⟩) n c)]).run Try.prog w=.ok (.slice (some ⟨w.heap.size,0,none⟩) 1 1) (w.alloc (.cells #[.slice (some ⟨b,0,none⟩) n c] fR)):=by kernel_rfl
theorem st_run {w:World} {g i:Nat} {cs:Array Value} {ty:TypeId} {v:Value} (hg:w.heap[g]?=some (.cells cs ty (0,0))) (hi:i < cs.size) (h1:v.oneCell'=true):(Instr.storeAt fQ (.pointer (some ⟨g,i,none⟩)) v).run Try.prog w=.ok () (w.setRow g (cs.setIfInBounds i v)):=by
 have hc:v.cells=#[v]:=by cases v<;>first | rfl | cases h1
 have hcell:w.cell? ⟨g,i,none⟩=some cs[i]:=by simp [World.cell?,hg,hi]
 have hfro:w.frozen? ⟨g,i,none⟩=false:=by simp [World.frozen?,hg]
 have hst:(store ⟨g,i,none⟩ v).run Try.prog w=.ok () (w.setRow g (cs.setIfInBounds i v)):=by
  rw [run_store Try.prog w _ v _ h1,hcell]
  simp [hfro,setCell_eq_setRow w g i cs ty (0,0) v hg]
 obtain ⟨q,hq,hs⟩:∃ q,Try.prog.info? fQ=some q∧q.size=1:=by
  have hz:tab.size fQ=1:=by kernel_rfl
  obtain ⟨q,hq,hs,_⟩:=tab_size (T:=tab) tabOk (t:=fQ) (by rw [hz]; decide)
  exact ⟨q,hq,hs.trans hz⟩
 have ha:(⟨g,i,none⟩:Addr).add 0=⟨g,i,none⟩:=by unfold Addr.add; split<;>simp_all
 simp [Instr.storeAt,Instr.sureAddr,storeVar,sizeOf,typeInfo,hq,hc,hs,storeCells,ha,hst]
/-! The states on the way. -/
def S8:List Nat:=[2,3,4,12,13,17,18,19]
def lz (l:List Nat):Array Bool:=l.foldl (fun a i=>a.setIfInBounds i true) (Array.replicate 13 false)
def Mk30 (W:World) (xs:List Int) (a:Act) (w:World):Prop:=
 ∃ b c,a.tmps.getD 30 Go.undef=.slice (some ⟨b,0,none⟩) xs.length c∧w.ownsRow 0 fI 1 (.slice (some ⟨b,0,none⟩) xs.length c) xs.length (xs.map (Value.int .i64))∧W.heap.size≤b
def Mk31 (W:World) (xs:List Int) (a:Act) (w:World):Prop:=
 ∃ b c q ty,w.ownsRow 0 fI 1 (.slice (some ⟨b,0,none⟩) xs.length c) xs.length (xs.map (Value.int .i64))∧W.heap.size≤b∧a.tmps.getD 31 Go.undef=.slice (some ⟨q,0,none⟩) 1 1∧w.heap[q]?=some (.cells #[.slice (some ⟨b,0,none⟩) xs.length c] ty (0,0))∧W.heap.size≤q∧q≠b
structure St8 (W:World) (a0:Act) (bx t:Nat) (vt cv:Value) (xs:List Int) (c:Nat) (ld:Bool) (a:Act) (w:World):Prop where
 gr:W.grownBy w none
 sz:a.tmps.size=38
 df:a.defers=a0.defers
 keep:∀ s∈S8,a.tmps.getD s Go.undef=a0.tmps.getD s Go.undef
 s23:a.tmps.getD 23 Go.undef=.int .i64 (t:Int)
 s26:a.tmps.getD 26 Go.undef=.pointer (some ⟨bx,1 + t,none⟩)
 s29:a.tmps.getD 29 Go.undef=cv
 s33:a.tmps.getD 33 Go.undef=.pointer (some ⟨bx,1,none⟩)
 s27:ld=true→a.tmps.getD 27 Go.undef=vt
 s28:c=1→∃ e,a.tmps.getD 28 Go.undef=.slice (some ⟨e,0,none⟩) 0 0∧w.ownsRow 0 fI 1 (.slice (some ⟨e,0,none⟩) 0 0) 0 []∧W.heap.size≤e
 s30:c=2→Mk30 W xs a w
 s31:c=3→Mk31 W xs a w
structure R8p (W:World) (a0:Act) (bx t:Nat) (cs:Array Value) (ty:TypeId) (vt:Value) (us:List Value) (xs:List Int) (a:Act) (w:World):Prop where
 sz:a.tmps.size=38
 df:a.defers=a0.defers
 keep:∀ s∈S8,a.tmps.getD s Go.undef=a0.tmps.getD s Go.undef
 made:∃ b c v',w.ownsRow 0 fI 1 (.slice (some ⟨b,0,none⟩) xs.length c) xs.length (xs.map (Value.int .i64))∧W.heap.size≤b∧w.ownsRow 0 fR 1 v' (us.length + 1) (us++[.slice (some ⟨b,0,none⟩) xs.length c]) ∧
  (v'.ownBlock=vt.ownBlock∨∃ b',v'.ownBlock=some b'∧W.heap.size≤b'∧b'≠b)∧w.heap[bx]?=some (.cells (cs.setIfInBounds (1 + t) v') ty (0,0))
 blk:∀ k,k < W.heap.size→k≠bx→some k≠vt.ownBlock→w.heap[k]?=W.heap[k]?
 os:w.os=W.os
 ta:w.tape=W.tape
 ou:w.output=W.output
 hs:W.heap.size≤w.heap.size
theorem grow_alloc (w:World) (o:Obj):w.grownBy (w.alloc o) none:=⟨rfl,rfl,rfl,by show w.heap.size≤(w.heap.push o).size; rw [Array.size_push]; omega,fun k hk _=>heap_alloc_old w o hk⟩
theorem grow_trans {w w1 w2:World} {r:Option Nat} (h1:w.grownBy w1 none) (h2:w1.grownBy w2 r) (hr:∀ k,r=some k→w.heap.size≤k):w.grownBy w2 none:=
 ⟨h2.os.trans h1.os,h2.tape.trans h1.tape,h2.output.trans h1.output,Nat.le_trans h1.size h2.size,fun k hk hn=>(h2.block k (Nat.lt_of_lt_of_le hk h1.size) fun e=>by have:=hr k e.symm; omega).trans (h1.block k hk hn)⟩
theorem ne_S8 {s d:Nat} (hs:s∈S8) (hd:S8.contains d=false):s≠d:=fun e=>by
 rw [e] at hs
 rw [List.contains_iff_mem.2 hs] at hd
 cases hd
theorem put_at (a:Act) (d:Nat) (v:Value) {s:Nat} (h:s≠d):(a.put (some d) v).tmps.getD s Go.undef=a.tmps.getD s Go.undef:=put_getD a (some d) v fun e=>h (by cases e; rfl)
section
variable {W:World} {a0:Act} {bx t:Nat} {vt cv:Value} {xs:List Int}
theorem St8.put {c:Nat} {ld:Bool} {a:Act} {w:World} (s:St8 W a0 bx t vt cv xs c ld a w) {d:Nat} (v:Value) (hd:S8.contains d=false) (hn:d≠23∧d≠26∧d≠29∧d≠33) {w':World} (gr:W.grownBy w' none) {c':Nat} {ld':Bool}
  (s27:ld'=true→(a.put (some d) v).tmps.getD 27 Go.undef=vt)
  (s28:c'=1→∃ e,(a.put (some d) v).tmps.getD 28 Go.undef=.slice (some ⟨e,0,none⟩) 0 0∧w'.ownsRow 0 fI 1 (.slice (some ⟨e,0,none⟩) 0 0) 0 []∧W.heap.size≤e)
  (s30:c'=2→Mk30 W xs (a.put (some d) v) w') (s31:c'=3→Mk31 W xs (a.put (some d) v) w'):St8 W a0 bx t vt cv xs c' ld' (a.put (some d) v) w':=
 ⟨gr,by rw [put_size]; exact s.sz,s.df,fun q hq=>(put_at a d v (ne_S8 hq hd)).trans (s.keep q hq),(put_at a d v (Ne.symm hn.1)).trans s.s23,(put_at a d v (Ne.symm hn.2.1)).trans s.s26,(put_at a d v (Ne.symm hn.2.2.1)).trans s.s29,(put_at a d v (Ne.symm hn.2.2.2)).trans s.s33,s27,s28,s30,s31⟩
theorem lt_of_block {w:World} {k:Nat} {o:Obj} (h:w.heap[k]?=some o):k < w.heap.size:=(Array.getElem?_eq_some_iff.1 h).1
theorem St8.load {c:Nat} {a:Act} {w:World} (s:St8 W a0 bx t vt cv xs c false a w) (hb:W.cell? ⟨bx,1 + t,none⟩=some vt) (hx:bx < W.heap.size) {nx:Act→World→Prop} {Q:Exit→Act→World→Prop}
  (next:∀ a',St8 W a0 bx t vt cv xs c true a' w→nx a' w):(fcOp cp8 4).wpIn (FW none) 0 Try.prog a w nx Q:=by
 have hc:w.cell? ⟨bx,1 + t,none⟩=some vt:=(World.cell?_of_block (s.gr.block bx hx (by simp))).trans hb
 have e:a.eval (.tmp 26)=.pointer (some ⟨bx,1 + t,none⟩):=s.s26
 refine wp_val (x:=vt) (w':=w) (by simp [execOp,cp8_4o,e,ld_run hc,Result.andThen]) ?_
 rw [cp8_4.2.2]
 have pp:∀ q,q≠27→(a.put (some 27) vt).tmps.getD q Go.undef=a.tmps.getD q Go.undef:=fun q hq=>put_at a 27 vt hq
 refine next _ (s.put vt (by decide) (by decide) s.gr (fun _=>put_getD_same a 27 vt (by rw [s.sz]; decide)) (fun h=>?_) (fun h=>?_) (fun h=>?_))
 ·rw [pp 28 (by decide)]; exact s.s28 h
 ·obtain ⟨b,c,q1,q2⟩:=s.s30 h
  exact ⟨b,c,(pp 30 (by decide)).trans q1,q2⟩
 ·obtain ⟨b,c,q,ty,q1,q2,q3,q4⟩:=s.s31 h
  exact ⟨b,c,q,ty,q1,q2,(pp 31 (by decide)).trans q3,q4⟩
theorem St8.mk0 {ld:Bool} {a:Act} {w:World} (s:St8 W a0 bx t vt cv xs 0 ld a w) {nx:Act→World→Prop} {Q:Exit→Act→World→Prop}
  (next:∀ a' w',St8 W a0 bx t vt cv xs 1 ld a' w'→nx a' w'):(fcOp cp8 5).wpIn (FW none) 0 Try.prog a w nx Q:=by
 refine wp_val (x:=.slice (some ⟨w.heap.size,0,none⟩) 0 0) (w':=w.alloc (.cells #[] fI)) (by simp [execOp,cp8_5o,bs0_run,Result.andThen]) ?_
 rw [cp8_5.2.2]
 have gr:W.grownBy (w.alloc (.cells #[] fI)) none:=grow_trans s.gr (grow_alloc w _) fun k h=>by cases h
 refine next _ _ (s.put _ (by decide) (by decide) gr (fun h=>(put_at a 28 _ (by decide)).trans (s.s27 h)) (fun _=>⟨w.heap.size,put_getD_same a 28 _ (by rw [s.sz]; decide),World.ownsRow_made w #[] 0 (Nat.zero_le _) (by decide) rfl,s.gr.size⟩) (fun h=>by cases h) fun h=>by cases h)
theorem app_run {o:Oper} {a:Act} {w w':World} {v':Value} {x y:Nat} {tt:TypeId} (ho:o.op=.call { callee:=.builtin .append,args:=#[.tmp x,.tmp y],argTypes:=#[tt,tt] })
  (h:(Builtin.append_ #[tt,tt] o.type #[a.eval (.tmp x),a.eval (.tmp y)]).run Try.prog w=.ok v' w'):(execOp a.eval o).run Try.prog w=.ok (.value v') w':=by
 simp [execOp,ho,resolve,invoke,builtin,h]
theorem St8.app {ld:Bool} {a:Act} {w:World} (s:St8 W a0 bx t vt cv xs 1 ld a w) {ad:Addr} {m:Nat} (hcv:cv=.slice (some ad) xs.length m) (hcell:∀ (j:Nat) u,(xs.map (Value.int .i64))[j]?=some u→W.cell? (ad.add j)=some u) (hx:0 < xs.length∧xs.length≤100) (had:ad.block < W.heap.size)
  {nx:Act→World→Prop} {Q:Exit→Act→World→Prop} (next:∀ a' w',St8 W a0 bx t vt cv xs 2 ld a' w'→nx a' w'):(fcOp cp8 7).wpIn (FW none) 0 Try.prog a w nx Q:=by
 obtain ⟨e,e1,e2,e3⟩:=s.s28 rfl
 have hc:∀ (j:Nat) u,(xs.map (Value.int .i64))[j]?=some u→w.cell? (ad.add j)=some u:=fun j u hu=>by
  have hb:(ad.add j).block=ad.block:=by unfold Addr.add; split<;>rfl
  exact (World.cell?_of_block (s.gr.block _ (by rw [hb]; exact had) (by simp))).trans (hcell j u hu)
 obtain ⟨v',w',r1,r2,r3,r4⟩:=append_run (P:=Try.prog) (T:=tab) (w:=w) tabOk fR (fcOp cp8 7).type fI (by kernel_rfl) (sz:=1) (by kernel_rfl) (by decide) (.slice (some ⟨e,0,none⟩) 0 0) 0 [] e2 ad xs.length m (xs.map (Value.int .i64)) (by rw [List.length_map,Nat.mul_one]) hc (fun u hu=>by obtain ⟨n,_,rfl⟩:=List.mem_map.1 hu; rfl) (.int .i64 0) (by kernel_rfl) ⟨by decide,by decide⟩ (by decide) (by
  have:tab.bytes fI=8:=by kernel_rfl
  rw [this]; simp only [room]; omega)
 rw [Nat.zero_add,List.nil_append] at r2
 have ev:#[a.eval (.tmp 28),a.eval (.tmp 29)]=#[.slice (some ⟨e,0,none⟩) 0 0,.slice (some ad) xs.length m]:=by
  have h1:a.eval (.tmp 28)=_:=e1
  have h2:a.eval (.tmp 29)=cv:=s.s29
  rw [h1,h2,hcv]
 refine wp_val (x:=v') (w':=w') (app_run cp8_7o (by rw [ev]; exact r1)) ?_
 rw [cp8_7.2.2]
 have hel:=e2.lt e rfl
 have gr:W.grownBy w' none:=grow_trans s.gr r3 fun k h=>by cases h; exact e3
 obtain ⟨g,cap,rfl⟩:∃ g cap,v'=.slice (some ⟨g,0,none⟩) xs.length cap:=by
  rcases r2.2 with ⟨_,h0⟩ | ⟨g,cap,cur,h1,_⟩
  ·omega
  ·exact ⟨g,cap,h1⟩
 have hg:W.heap.size≤g:=by
  rcases r4 with h | h
  ·cases h; exact e3
  ·cases h; exact s.gr.size
 refine next _ _ (s.put _ (by decide) (by decide) gr (fun h=>(put_at a 30 _ (by decide)).trans (s.s27 h)) (fun h=>by cases h) (fun _=>⟨g,cap,put_getD_same a 30 _ (by rw [s.sz]; decide),r2,hg⟩) fun h=>by cases h)
theorem St8.one {ld:Bool} {a:Act} {w:World} (s:St8 W a0 bx t vt cv xs 2 ld a w) {nx:Act→World→Prop} {Q:Exit→Act→World→Prop}
  (next:∀ a' w',St8 W a0 bx t vt cv xs 3 ld a' w'→nx a' w'):(fcOp cp8 8).wpIn (FW none) 0 Try.prog a w nx Q:=by
 obtain ⟨b,c,q1,q2,q3⟩:=s.s30 rfl
 have e:a.eval (.tmp 30)=.slice (some ⟨b,0,none⟩) xs.length c:=q1
 refine wp_val (x:=.slice (some ⟨w.heap.size,0,none⟩) 1 1) (w':=w.alloc (.cells #[.slice (some ⟨b,0,none⟩) xs.length c] fR)) (by simp [execOp,cp8_8o,e,bs1_run,Result.andThen]) ?_
 rw [cp8_8.2.2]
 have g1:=grow_alloc w (.cells #[.slice (some ⟨b,0,none⟩) xs.length c] fR)
 have gr:W.grownBy (w.alloc (.cells #[.slice (some ⟨b,0,none⟩) xs.length c] fR)) none:=grow_trans s.gr g1 fun k h=>by cases h
 have hb:=(q2.lt b rfl).2
 refine next _ _ (s.put _ (by decide) (by decide) gr (fun h=>(put_at a 31 _ (by decide)).trans (s.s27 h)) (fun h=>by cases h) (fun h=>by cases h) fun _=>⟨b,c,w.heap.size,fR,q2.kept g1 (.inr (by simp [Value.ownBlock])),q3,put_getD_same a 31 _ (by rw [s.sz]; decide),heap_alloc_new w _,s.gr.size,by omega⟩)
end
theorem grow_set (w:World) (g:Nat) (cs:Array Value):w.grownBy (w.setRow g cs) (some g):=⟨rfl,rfl,rfl,by rw [setRow_size]; exact Nat.le_refl _,fun k _ hn=>setRow_other w g k cs fun e=>hn (by rw [e])⟩
theorem eval_t (a:Act) (t:Nat):a.eval (.tmp t)=a.tmps.getD t Go.undef:=rfl
structure H8 (W:World) (bx t:Nat) (cs:Array Value) (ty:TypeId) (vt:Value) (us:List Value) (cv:Value) (xs:List Int):Prop where
 ht:t < 2
 row:W.ownsRow 0 fR 1 vt us.length us
 bxc:W.heap[bx]?=some (.cells cs ty (0,0))
 c3:cs.size=3
 cvt:cs[1 + t]?=some vt
 hne:some bx≠vt.ownBlock
 ul:us.length≤100
 xl:0 < xs.length∧xs.length≤100
 cv:∃ ad m,cv=.slice (some ad) xs.length m∧(∀ (j:Nat) u,(xs.map (Value.int .i64))[j]?=some u→W.cell? (ad.add j)=some u)∧ad.block < W.heap.size
section
variable {W:World} {a0:Act} {bx t:Nat} {cs:Array Value} {ty:TypeId} {vt cv:Value} {us:List Value} {xs:List Int}
theorem H8.cell (H:H8 W bx t cs ty vt us cv xs):W.cell? ⟨bx,1 + t,none⟩=some vt:=by
 have:=H.cvt
 simp only [World.cell?,H.bxc]
 exact this
theorem e3T (H:H8 W bx t cs ty vt us cv xs) {listed:Array Bool} (hl:listed=lz [0,1,2,3,4,5,6,7,8,10]) {a:Act} {w:World} (s:St8 W a0 bx t vt cv xs 3 true a w) {Q:Exit→Act→World→Prop}
  (fin:∀ a' w',R8p W a0 bx t cs ty vt us xs a' w'→Q .normal a' w'):wpAnyIn (FW none) 0 Try.prog .any cp8 Q 3 listed a w:=by
 subst hl
 obtain ⟨b,c,q,tq,q1,q2,q3,q4,q5,q6⟩:=s.s31 rfl
 have hbx:=lt_of_block H.bxc
 have hv:w.ownsRow 0 fR 1 vt us.length us:=H.row.kept s.gr (by
  cases h:vt.ownBlock
  ·exact .inl rfl
  ·exact .inr (by simp))
 have hadd:(⟨q,0,none⟩:Addr).add 0=⟨q,0,none⟩:=by unfold Addr.add; split<;>simp_all
 obtain ⟨v',w1,r1,r2,r3,r4⟩:=append_run (P:=Try.prog) (T:=tab) (w:=w) tabOk fQ (fcOp cp8 9).type fR (by kernel_rfl) (sz:=1) (by kernel_rfl) (by decide) vt us.length us hv ⟨q,0,none⟩ 1 1 [.slice (some ⟨b,0,none⟩) xs.length c] rfl (fun j u hu=>by
  cases j with
  | zero=>
    rw [hadd]
    simp only [World.cell?,q4]
    exact hu
  | succ j=>simp at hu) (fun u hu=>by rw [List.mem_singleton.1 hu]; rfl) .nils (by kernel_rfl) ⟨by decide,by decide⟩ (by decide) (by
  have:tab.bytes fR=24:=by kernel_rfl
  have:=H.ul
  rw [‹tab.bytes fR=24›]; simp only [room]; omega)
 have ev:#[a.eval (.tmp 27),a.eval (.tmp 31)]=#[vt,.slice (some ⟨q,0,none⟩) 1 1]:=by
  rw [eval_t,eval_t,s.s27 rfl,q3]
 refine any_step (rs:=[9]) (by kernel_rfl) (by simp) fun i hi=>?_
 rw [List.mem_singleton.1 hi]
 refine ⟨_,cp8_9.1,cp8_9.2.1,wp_val (x:=v') (w':=w1) (app_run cp8_9o (by rw [ev]; exact r1)) ?_⟩
 rw [cp8_9.2.2]
 refine any_step (rs:=[11]) (by kernel_rfl) (by simp) fun i hi=>?_
 rw [List.mem_singleton.1 hi]
 have e33:(a.put (some 32) v').eval (.tmp 33)=.pointer (some ⟨bx,1,none⟩):=(put_at a 32 v' (by decide)).trans s.s33
 have e23:(a.put (some 32) v').eval (.tmp 23)=.int .i64 (t:Int):=(put_at a 32 v' (by decide)).trans s.s23
 refine ⟨_,cp8_11.1,cp8_11.2.1,wp_val (x:=.pointer (some ⟨bx,1 + t,none⟩)) (w':=w1) (by simp [execOp,cp8_11o,e33,e23,ia_run bx t H.ht,Result.andThen]) ?_⟩
 rw [cp8_11.2.2]
 refine any_step (rs:=[12]) (by kernel_rfl) (by simp) fun i hi=>?_
 rw [List.mem_singleton.1 hi]
 have sz1:(a.put (some 32) v').tmps.size=38:=by rw [put_size]; exact s.sz
 have e34:((a.put (some 32) v').put (some 34) (.pointer (some ⟨bx,1 + t,none⟩))).eval (.tmp 34)=.pointer (some ⟨bx,1 + t,none⟩):=put_getD_same _ 34 _ (by rw [sz1]; decide)
 have e32:((a.put (some 32) v').put (some 34) (.pointer (some ⟨bx,1 + t,none⟩))).eval (.tmp 32)=v':=(put_at _ 34 _ (by decide)).trans (put_getD_same a 32 v' (by rw [s.sz]; decide))
 have hbw:bx < w.heap.size:=Nat.lt_of_lt_of_le hbx s.gr.size
 have hg1:w1.heap[bx]?=some (.cells cs ty (0,0)):=(r3.block bx hbw H.hne).trans ((s.gr.block bx hbx (by simp)).trans H.bxc)
 have hone:v'.oneCell'=true:=by rcases r2.2 with ⟨h,_⟩ | ⟨g,cap,cur,h,_⟩<;>rw [h]<;>rfl
 have hi3:1 + t < cs.size:=by have:=H.c3; have:=H.ht; omega
 refine ⟨_,cp8_12.1,cp8_12.2.1,wp_skip' (w':=w1.setRow bx (cs.setIfInBounds (1 + t) v')) (by simp [execOp,cp8_12o,e34,e32,st_run hg1 hi3 hone,Result.andThen]) ?_⟩
 rw [cp8_12.2.2]
 refine wpAnyIn_done (by kernel_rfl) (fin _ _ ?_) 0
 have gs:=grow_set w1 bx (cs.setIfInBounds (1 + t) v')
 have vlt:∀ k,vt.ownBlock=some k→k < W.heap.size:=fun k hk=>(H.row.lt k hk).2
 have hbn:(Value.slice (some ⟨b,0,none⟩) xs.length c).ownBlock≠vt.ownBlock:=fun e=>by
  have:=vlt b e.symm
  omega
 have hbb:b < w.heap.size:=(q1.lt b rfl).2
 have hvb:v'.ownBlock=vt.ownBlock∨∃ b',v'.ownBlock=some b'∧W.heap.size≤b'∧b'≠b:=by
  rcases r4 with h | h
  ·exact .inl h
  ·exact .inr ⟨_,h,s.gr.size,by omega⟩
 refine ⟨by show ((a.put (some 32) v').put (some 34) _).tmps.size=38; rw [put_size]; exact sz1,s.df,fun p hp=>?_,⟨b,c,v',?_,q2,?_,hvb,setRow_heap w1 bx cs _ ty (0,0) hg1⟩,fun k hk h1 h2=>?_,?_,?_,?_,?_⟩
 ·exact (put_at _ 34 _ (ne_S8 hp (by decide))).trans ((put_at a 32 v' (ne_S8 hp (by decide))).trans (s.keep p hp))
 ·refine (q1.kept r3 (.inr hbn)).kept gs (.inr fun e=>?_)
  have:b=bx:=by simpa [Value.ownBlock] using e
  omega
 ·refine r2.kept gs (.inr fun e=>?_)
  rcases hvb with h | ⟨b',h,h1,_⟩
  ·exact H.hne (h ▸ e).symm
  ·rw [h] at e
   have:b'=bx:=by simpa using e
   omega
 ·exact (setRow_other w1 bx k _ h1).trans ((r3.block k (Nat.lt_of_lt_of_le hk s.gr.size) h2).trans (s.gr.block k hk (by simp)))
 ·exact (gs.os.trans r3.os).trans s.gr.os
 ·exact (gs.tape.trans r3.tape).trans s.gr.tape
 ·exact (gs.output.trans r3.output).trans s.gr.output
 ·exact Nat.le_trans s.gr.size (Nat.le_trans r3.size gs.size)
variable (H:H8 W bx t cs ty vt us cv xs)
include H
theorem st_app {ld:Bool} {a:Act} {w:World} (s:St8 W a0 bx t vt cv xs 1 ld a w) {nx:Act→World→Prop} {Q:Exit→Act→World→Prop} (next:∀ a' w',St8 W a0 bx t vt cv xs 2 ld a' w'→nx a' w'):(fcOp cp8 7).wpIn (FW none) 0 Try.prog a w nx Q:=by
 obtain ⟨ad,m,h1,h2,h3⟩:=H.cv
 exact s.app h1 h2 H.xl h3 next
theorem st_load {c:Nat} {a:Act} {w:World} (s:St8 W a0 bx t vt cv xs c false a w) {nx:Act→World→Prop} {Q:Exit→Act→World→Prop} (next:∀ a',St8 W a0 bx t vt cv xs c true a' w→nx a' w):(fcOp cp8 4).wpIn (FW none) 0 Try.prog a w nx Q:=s.load H.cell (lt_of_block H.bxc) next
variable {Q:Exit→Act→World→Prop} (fin:∀ a' w',R8p W a0 bx t cs ty vt us xs a' w'→Q .normal a' w') {a:Act} {w:World} {listed:Array Bool}
include fin
theorem e2T (hl:listed=lz [0,1,2,3,4,5,6,7,10]) (s:St8 W a0 bx t vt cv xs 2 true a w):wpAnyIn (FW none) 0 Try.prog .any cp8 Q 4 listed a w:=by
 subst hl
 refine any_step (rs:=[8]) (by kernel_rfl) (by simp) fun i hi=>?_
 rw [List.mem_singleton.1 hi]
 exact ⟨_,cp8_8.1,cp8_8.2.1,s.one fun a' w' s'=>e3T H (by kernel_rfl) s' fin⟩
theorem e1T (hl:listed=lz [0,1,2,3,4,5,6,10]) (s:St8 W a0 bx t vt cv xs 1 true a w):wpAnyIn (FW none) 0 Try.prog .any cp8 Q 5 listed a w:=by
 subst hl
 refine any_step (rs:=[7]) (by kernel_rfl) (by simp) fun i hi=>?_
 rw [List.mem_singleton.1 hi]
 exact ⟨_,cp8_7.1,cp8_7.2.1,st_app H s fun a' w' s'=>e2T H fin (by kernel_rfl) s'⟩
theorem e0T (hl:listed=lz [0,1,2,3,4,6,10]) (s:St8 W a0 bx t vt cv xs 0 true a w):wpAnyIn (FW none) 0 Try.prog .any cp8 Q 6 listed a w:=by
 subst hl
 refine any_step (rs:=[5]) (by kernel_rfl) (by simp) fun i hi=>?_
 rw [List.mem_singleton.1 hi]
 exact ⟨_,cp8_5.1,cp8_5.2.1,s.mk0 fun a' w' s'=>e1T H fin (by kernel_rfl) s'⟩
theorem e3F (hl:listed=lz [0,1,2,3,5,6,7,8,10]) (s:St8 W a0 bx t vt cv xs 3 false a w):wpAnyIn (FW none) 0 Try.prog .any cp8 Q 4 listed a w:=by
 subst hl
 refine any_step (rs:=[4]) (by kernel_rfl) (by simp) fun i hi=>?_
 rw [List.mem_singleton.1 hi]
 exact ⟨_,cp8_4.1,cp8_4.2.1,st_load H s fun a' s'=>e3T H (by kernel_rfl) s' fin⟩
theorem e2F (hl:listed=lz [0,1,2,3,5,6,7,10]) (s:St8 W a0 bx t vt cv xs 2 false a w):wpAnyIn (FW none) 0 Try.prog .any cp8 Q 5 listed a w:=by
 subst hl
 refine any_step (rs:=[4,8]) (by kernel_rfl) (by simp) fun i hi=>?_
 rcases List.mem_cons.1 hi with rfl | hi
 ·exact ⟨_,cp8_4.1,cp8_4.2.1,st_load H s fun a' s'=>e2T H fin (by kernel_rfl) s'⟩
 ·rw [List.mem_singleton.1 hi]
  exact ⟨_,cp8_8.1,cp8_8.2.1,s.one fun a' w' s'=>e3F H fin (by kernel_rfl) s'⟩
theorem e1F (hl:listed=lz [0,1,2,3,5,6,10]) (s:St8 W a0 bx t vt cv xs 1 false a w):wpAnyIn (FW none) 0 Try.prog .any cp8 Q 6 listed a w:=by
 subst hl
 refine any_step (rs:=[4,7]) (by kernel_rfl) (by simp) fun i hi=>?_
 rcases List.mem_cons.1 hi with rfl | hi
 ·exact ⟨_,cp8_4.1,cp8_4.2.1,st_load H s fun a' s'=>e1T H fin (by kernel_rfl) s'⟩
 ·rw [List.mem_singleton.1 hi]
  exact ⟨_,cp8_7.1,cp8_7.2.1,st_app H s fun a' w' s'=>e2F H fin (by kernel_rfl) s'⟩
theorem e0F (hl:listed=lz [0,1,2,3,6,10]) (s:St8 W a0 bx t vt cv xs 0 false a w):wpAnyIn (FW none) 0 Try.prog .any cp8 Q 7 listed a w:=by
 subst hl
 refine any_step (rs:=[4,5]) (by kernel_rfl) (by simp) fun i hi=>?_
 rcases List.mem_cons.1 hi with rfl | hi
 ·exact ⟨_,cp8_4.1,cp8_4.2.1,st_load H s fun a' s'=>e0T H fin (by kernel_rfl) s'⟩
 ·rw [List.mem_singleton.1 hi]
  exact ⟨_,cp8_5.1,cp8_5.2.1,s.mk0 fun a' w' s'=>e1F H fin (by kernel_rfl) s'⟩
end
theorem ab_none {o:Oper} {p:Op} (h:o.op=p) (hp:∀ c,p≠.call c) (P:Program) (w:World) (ρ:Operand→Value):o.about P w ρ=none:=by
 unfold Oper.about
 rw [h]
 cases p<;>first | rfl | exact absurd rfl (hp _)
theorem r8_wp {w:World} {a:Act} {bx t:Nat} {cs:Array Value} {ty:TypeId} {vt cv:Value} {us:List Value} {xs:List Int} (hsz:a.tmps.size=38) (h3:a.tmps.getD 3 Go.undef=.pointer (some ⟨bx,0,none⟩)) (h4:a.tmps.getD 4 Go.undef=.int .i64 (t:Int)) (h7:a.tmps.getD 7 Go.undef=cv)
  (H:H8 w bx t cs ty vt us cv xs):WpR Try.prog (.region 8 cp8 true) (fun e a' w'=>e=.normal∧R8p w a bx t cs ty vt us xs a' w') a w:=fun b _ hr=>wpB_of (by
 rw [hr]
 refine wpIn_region_any mixedT ?_
 rw [cp8_size]
 have H':H8 { w with drawn:=w.drawn + 1 } bx t cs ty vt us cv xs:=⟨H.ht,H.row,H.bxc,H.c3,H.cvt,H.hne,H.ul,H.xl,H.cv⟩
 generalize hW:{ w with drawn:=w.drawn + 1 }=W at H'
 have eR:∀ a' w',R8p W a bx t cs ty vt us xs a' w'→R8p w a bx t cs ty vt us xs a' w':=fun a' w' h=>by subst hW; exact ⟨h.sz,h.df,h.keep,h.made,h.blk,h.os,h.ta,h.ou,h.hs⟩
 refine take_y cp8_0 cp8_sel (by kernel_rfl) (by kernel_rfl) (v:=.int .i64 (t:Int)) (fun w=>by simp [execOp,cp8_0o,eval_t,h4]) (fun w=>ab_none cp8_0o (by simp) _ _ _) ?_
 have p1:∀ s,s≠23→(a.put (some 23) (.int .i64 (t:Int))).tmps.getD s Go.undef=a.tmps.getD s Go.undef:=fun s hs=>put_at a 23 _ hs
 have z1:(a.put (some 23) (.int .i64 (t:Int))).tmps.size=38:=by rw [put_size]; exact hsz
 have q1:(a.put (some 23) (.int .i64 (t:Int))).tmps.getD 23 Go.undef=.int .i64 (t:Int):=put_getD_same a 23 _ (by omega)
 have d1:(a.put (some 23) (.int .i64 (t:Int))).defers=a.defers:=rfl
 generalize a.put (some 23) (.int .i64 (t:Int))=a1 at *
 refine take_y cp8_1 cp8_sel (by kernel_rfl) (by kernel_rfl) (v:=.int .i64 (t:Int)) (fun w=>by simp [execOp,cp8_1o,eval_t,p1 4 (by decide),h4]) (fun w=>ab_none cp8_1o (by simp) _ _ _) ?_
 have p2:∀ s,s≠24→(a1.put (some 24) (.int .i64 (t:Int))).tmps.getD s Go.undef=a1.tmps.getD s Go.undef:=fun s hs=>put_at a1 24 _ hs
 have z2:(a1.put (some 24) (.int .i64 (t:Int))).tmps.size=38:=by rw [put_size]; exact z1
 have q2:(a1.put (some 24) (.int .i64 (t:Int))).tmps.getD 24 Go.undef=.int .i64 (t:Int):=put_getD_same a1 24 _ (by omega)
 have d2:(a1.put (some 24) (.int .i64 (t:Int))).defers=a1.defers:=rfl
 generalize a1.put (some 24) (.int .i64 (t:Int))=a2 at *
 have e3:a2.tmps.getD 3 Go.undef=.pointer (some ⟨bx,0,none⟩):=(p2 3 (by decide)).trans ((p1 3 (by decide)).trans h3)
 refine take_y cp8_2 cp8_sel (by kernel_rfl) (by kernel_rfl) (v:=.pointer (some ⟨bx,1,none⟩)) (fun w=>by simp [execOp,cp8_2o,eval_t,e3,fa_run,Result.andThen]) (fun w=>ab_none cp8_2o (by simp) _ _ _) ?_
 have p3:∀ s,s≠25→(a2.put (some 25) (.pointer (some ⟨bx,1,none⟩))).tmps.getD s Go.undef=a2.tmps.getD s Go.undef:=fun s hs=>put_at a2 25 _ hs
 have z3:(a2.put (some 25) (.pointer (some ⟨bx,1,none⟩))).tmps.size=38:=by rw [put_size]; exact z2
 have q3:(a2.put (some 25) (.pointer (some ⟨bx,1,none⟩))).tmps.getD 25 Go.undef=.pointer (some ⟨bx,1,none⟩):=put_getD_same a2 25 _ (by omega)
 have d3:(a2.put (some 25) (.pointer (some ⟨bx,1,none⟩))).defers=a2.defers:=rfl
 generalize a2.put (some 25) (.pointer (some ⟨bx,1,none⟩))=a3 at *
 have e24:a3.tmps.getD 24 Go.undef=.int .i64 (t:Int):=(p3 24 (by decide)).trans q2
 refine take_y cp8_3 cp8_sel (by kernel_rfl) (by kernel_rfl) (v:=.pointer (some ⟨bx,1 + t,none⟩)) (fun w=>by simp [execOp,cp8_3o,eval_t,q3,e24,ia_run bx t H'.ht,Result.andThen]) (fun w=>ab_none cp8_3o (by simp) _ _ _) ?_
 have p4:∀ s,s≠26→(a3.put (some 26) (.pointer (some ⟨bx,1 + t,none⟩))).tmps.getD s Go.undef=a3.tmps.getD s Go.undef:=fun s hs=>put_at a3 26 _ hs
 have z4:(a3.put (some 26) (.pointer (some ⟨bx,1 + t,none⟩))).tmps.size=38:=by rw [put_size]; exact z3
 have q4:(a3.put (some 26) (.pointer (some ⟨bx,1 + t,none⟩))).tmps.getD 26 Go.undef=.pointer (some ⟨bx,1 + t,none⟩):=put_getD_same a3 26 _ (by omega)
 have d4:(a3.put (some 26) (.pointer (some ⟨bx,1 + t,none⟩))).defers=a3.defers:=rfl
 generalize a3.put (some 26) (.pointer (some ⟨bx,1 + t,none⟩))=a4 at *
 have e7:a4.tmps.getD 7 Go.undef=cv:=(p4 7 (by decide)).trans ((p3 7 (by decide)).trans ((p2 7 (by decide)).trans ((p1 7 (by decide)).trans h7)))
 refine take_y cp8_6 cp8_sel (by kernel_rfl) (by kernel_rfl) (v:=cv) (fun w=>by simp [execOp,cp8_6o,eval_t,e7]) (fun w=>ab_none cp8_6o (by simp) _ _ _) ?_
 have p5:∀ s,s≠29→(a4.put (some 29) cv).tmps.getD s Go.undef=a4.tmps.getD s Go.undef:=fun s hs=>put_at a4 29 _ hs
 have z5:(a4.put (some 29) cv).tmps.size=38:=by rw [put_size]; exact z4
 have q5:(a4.put (some 29) cv).tmps.getD 29 Go.undef=cv:=put_getD_same a4 29 _ (by omega)
 have d5:(a4.put (some 29) cv).defers=a4.defers:=rfl
 generalize a4.put (some 29) cv=a5 at *
 have e3':a5.tmps.getD 3 Go.undef=.pointer (some ⟨bx,0,none⟩):=(p5 3 (by decide)).trans ((p4 3 (by decide)).trans ((p3 3 (by decide)).trans e3))
 refine take_y cp8_10 cp8_sel (by kernel_rfl) (by kernel_rfl) (v:=.pointer (some ⟨bx,1,none⟩)) (fun w=>by simp [execOp,cp8_10o,eval_t,e3',fa_run,Result.andThen]) (fun w=>ab_none cp8_10o (by simp) _ _ _) ?_
 have p6:∀ s,s≠33→(a5.put (some 33) (.pointer (some ⟨bx,1,none⟩))).tmps.getD s Go.undef=a5.tmps.getD s Go.undef:=fun s hs=>put_at a5 33 _ hs
 have z6:(a5.put (some 33) (.pointer (some ⟨bx,1,none⟩))).tmps.size=38:=by rw [put_size]; exact z5
 have q6:(a5.put (some 33) (.pointer (some ⟨bx,1,none⟩))).tmps.getD 33 Go.undef=.pointer (some ⟨bx,1,none⟩):=put_getD_same a5 33 _ (by omega)
 have d6:(a5.put (some 33) (.pointer (some ⟨bx,1,none⟩))).defers=a5.defers:=rfl
 generalize a5.put (some 33) (.pointer (some ⟨bx,1,none⟩))=a6 at *
 refine e0F (W:=W) (a0:=a) H' (fun a' w' h=>⟨rfl,eR a' w' h⟩) (by kernel_rfl) ⟨⟨rfl,rfl,rfl,Nat.le_refl _,fun _ _ _=>rfl⟩,z6,d6.trans (d5.trans (d4.trans (d3.trans (d2.trans d1)))),fun s hs=>?_,?_,?_,?_,q6,(fun h=>by cases h),(fun h=>by cases h),(fun h=>by cases h),(fun h=>by cases h)⟩
 ·exact (p6 s (ne_S8 hs (by decide))).trans ((p5 s (ne_S8 hs (by decide))).trans ((p4 s (ne_S8 hs (by decide))).trans ((p3 s (ne_S8 hs (by decide))).trans ((p2 s (ne_S8 hs (by decide))).trans (p1 s (ne_S8 hs (by decide)))))))
 ·exact (p6 23 (by decide)).trans ((p5 23 (by decide)).trans ((p4 23 (by decide)).trans ((p3 23 (by decide)).trans ((p2 23 (by decide)).trans q1))))
 ·exact (p6 26 (by decide)).trans ((p5 26 (by decide)).trans q4)
 ·exact (p6 29 (by decide)).trans q5)
def cpBlk (bx rb:Nat) (V:Nat→Value) (U:Nat→List Value):Nat→Nat→Option Nat
 | 0,0=>some bx
 | 0,1=>some rb
 | 1,0=>(V 0).ownBlock
 | 1,1=>(V 1).ownBlock
 | 2,j=>((U 0)[j]?).bind Value.ownBlock
 | 3,j=>((U 1)[j]?).bind Value.ownBlock
 | _,_=>none
theorem cpBlk_v {bx rb:Nat} {V:Nat→Value} {U:Nat→List Value} {t:Nat} (ht:t < 2):cpBlk bx rb V U 1 t=(V t).ownBlock:=by
 rcases (show t=0∨t=1 by omega) with rfl | rfl<;>rfl
theorem cpBlk_u {bx rb:Nat} {V:Nat→Value} {U:Nat→List Value} {t:Nat} (ht:t < 2) (j:Nat):cpBlk bx rb V U (2 + t) j=((U t)[j]?).bind Value.ownBlock:=by
 rcases (show t=0∨t=1 by omega) with rfl | rfl<;>rfl
structure Cp (w0 w:World) (bx rb:Nat) (d:Int) (V:Nat→Value) (U:Nat→List Value) (X:Nat→List (List Int)):Prop where
 gr:w0.grownBy w none
 bxc:∃ ty,w.heap[bx]?=some (.cells #[.int .i64 d,V 0,V 1] ty (0,0))
 rbc:∃ arr ty,w.heap[rb]?=some (.cells arr ty (0,0))∧arr.size=3
 row:∀ t,t < 2→w.ownsRow 0 fR 1 (V t) (U t).length (U t)
 len:∀ t,t < 2→(U t).length=(X t).length
 inn:∀ t (j:Nat) (u:Value) (x:List Int),t < 2→(U t)[j]?=some u→(X t)[j]?=some x→w.ownsRow 0 fI 1 u x.length (x.map (Value.int .i64))∧0 < x.length
 inj:∀ p j q k b,cpBlk bx rb V U p j=some b→cpBlk bx rb V U q k=some b→p=q∧j=k
 lo:∀ p j b,cpBlk bx rb V U p j=some b→w0.heap.size≤b∧b < w.heap.size
theorem owns_keep {w w':World} {base:Nat} {e:TypeId} {size:Nat} {v:Value} {n:Nat} {xs:List Value} (h:w.ownsRow base e size v n xs) (hk:∀ k,v.ownBlock=some k→w'.heap[k]?=w.heap[k]?):w'.ownsRow base e size v n xs:=by
 refine ⟨h.1,?_⟩
 rcases h.2 with hn | ⟨g,cap,cur,rfl,hb,hgg,rest⟩
 ·exact .inl hn
 ·exact .inr ⟨g,cap,cur,rfl,hb,(hk g rfl).trans hgg,rest⟩
theorem Cp.same {w0 w w':World} {bx rb:Nat} {d:Int} {V:Nat→Value} {U:Nat→List Value} {X:Nat→List (List Int)} (C:Cp w0 w bx rb d V U X) (h:w.grownBy w' none):Cp w0 w' bx rb d V U X:=by
 have kb:∀ p j b,cpBlk bx rb V U p j=some b→w'.heap[b]?=w.heap[b]?:=fun p j b hb=>h.block b (C.lo p j b hb).2 (by simp)
 refine ⟨grow_trans C.gr h (fun k e=>by cases e),?_,?_,fun t ht=>owns_keep (C.row t ht) fun k hk=>kb 1 t k (by rw [cpBlk_v ht]; exact hk),C.len,fun t j u x ht hu hx=>⟨owns_keep (C.inn t j u x ht hu hx).1 fun k hk=>kb (2 + t) j k (by rw [cpBlk_u ht,hu]; exact hk),(C.inn t j u x ht hu hx).2⟩,C.inj,fun p j b hb=>⟨(C.lo p j b hb).1,Nat.lt_of_lt_of_le (C.lo p j b hb).2 h.size⟩⟩
 ·obtain ⟨ty,e⟩:=C.bxc
  exact ⟨ty,(kb 0 0 bx rfl).trans e⟩
 ·obtain ⟨arr,ty,e,hs⟩:=C.rbc
  exact ⟨arr,ty,(kb 0 1 rb rfl).trans e,hs⟩
def up {α:Type} (f:Nat→α) (t:Nat) (v:α):Nat→α:=fun s=>if s=t then v else f s
theorem up_same {α:Type} (f:Nat→α) (t:Nat) (v:α):up f t v t=v:=if_pos rfl
theorem up_other {α:Type} (f:Nat→α) {t s:Nat} (v:α) (h:s≠t):up f t v s=f s:=if_neg h
theorem Cp.step {w0 w w':World} {bx rb:Nat} {d:Int} {V:Nat→Value} {U:Nat→List Value} {X:Nat→List (List Int)} (C:Cp w0 w bx rb d V U X) {t:Nat} (ht:t < 2) {ty:TypeId} {x:List Int} (hx:0 < x.length) {a a':Act}
  (r:R8p w a bx t #[.int .i64 d,V 0,V 1] ty (V t) (U t) x a' w'):∃ v' u,Cp w0 w' bx rb d (up V t v') (up U t (U t++[u])) (up X t (X t++[x]))∧∀ p j k,cpBlk bx rb (up V t v') (up U t (U t++[u])) p j=some k→cpBlk bx rb V U p j=some k∨w.heap.size≤k:=by
 obtain ⟨b,c,v',q1,q2,q3,q4,q5⟩:=r.made
 refine ⟨v',.slice (some ⟨b,0,none⟩) x.length c,?_⟩
 have hv:cpBlk bx rb V U 1 t=(V t).ownBlock:=cpBlk_v ht
 -- other blocks stay
 have kb:∀ p j k,cpBlk bx rb V U p j=some k→¬ (p=0∧j=0)→¬ (p=1∧j=t)→w'.heap[k]?=w.heap[k]?:=fun p j k hk h0 h1=>by
  refine r.blk k (C.lo p j k hk).2 (fun e=>?_) fun e=>?_
  ·have:=C.inj p j 0 0 k hk (by rw [e]; rfl)
   exact h0 this
  ·exact h1 (C.inj p j 1 t k hk (by rw [hv]; exact e.symm))
 have hbx:=(C.lo 0 0 bx rfl).1
 have key:∀ p j k,cpBlk bx rb (up V t v') (up U t (U t++[.slice (some ⟨b,0,none⟩) x.length c])) p j=some k→cpBlk bx rb V U p j=some k∨(p=1∧j=t∧v'.ownBlock=some k∧w.heap.size≤k∧k≠b)∨(p=2 + t∧j=(U t).length∧k=b):=by
  intro p j k hk
  have vcase:∀ s,s < 2→(up V t v' s).ownBlock=some k→(V s).ownBlock=some k∨(s=t∧v'.ownBlock=some k∧w.heap.size≤k∧k≠b):=fun s hs hk=>by
   by_cases e:s=t
   ·subst e
    rw [up_same] at hk
    rcases q4 with h | ⟨b',h,h1,h2⟩
    ·exact .inl (h ▸ hk)
    ·rw [h] at hk
     cases hk
     exact .inr ⟨rfl,h,h1,h2⟩
   ·rw [up_other _ _ e] at hk; exact .inl hk
  have ucase:∀ s,((up U t (U t++[.slice (some ⟨b,0,none⟩) x.length c]) s)[j]?).bind Value.ownBlock=some k→((U s)[j]?).bind Value.ownBlock=some k∨(s=t∧j=(U t).length∧k=b):=fun s hk=>by
   by_cases e:s=t
   ·subst e
    rw [up_same,List.getElem?_append] at hk
    split at hk
    ·exact .inl hk
    ·rename_i hj
     rcases Nat.eq_or_lt_of_not_lt hj with h | h
     ·rw [h,Nat.sub_self] at hk
      refine .inr ⟨rfl,h,?_⟩
      have hk':some b=some k:=hk
      cases hk'; rfl
     ·obtain ⟨m,hm⟩:∃ m,j - (U s).length=m + 1:=⟨j - (U s).length - 1,by omega⟩
      rw [hm] at hk
      simp at hk
   ·rw [up_other _ _ e] at hk; exact .inl hk
  match p,j,hk with
  | 0,0,hk=>exact .inl hk
  | 0,1,hk=>exact .inl hk
  | 1,0,hk=>exact (vcase 0 (by omega) hk).imp id fun h=>.inl ⟨rfl,h.1,h.2⟩
  | 1,1,hk=>exact (vcase 1 (by omega) hk).imp id fun h=>.inl ⟨rfl,h.1,h.2⟩
  | 2,j,hk=>exact (ucase 0 hk).imp id fun h=>.inr ⟨by omega,h.2⟩
  | 3,j,hk=>exact (ucase 1 hk).imp id fun h=>.inr ⟨by omega,h.2⟩
  | 0,j + 2,hk=>cases hk
  | 1,j + 2,hk=>cases hk
  | p + 4,j,hk=>cases hk
 refine ⟨?_,fun p j k h=>(key p j k h).imp id fun h=>h.elim (fun q=>q.2.2.2.1) fun q=>q.2.2 ▸ q2⟩
 refine ⟨⟨r.os.trans C.gr.os,r.ta.trans C.gr.tape,r.ou.trans C.gr.output,Nat.le_trans C.gr.size r.hs,fun k hk _=>?_⟩,⟨ty,?_⟩,?_,fun s hs=>?_,fun s hs=>?_,fun s j u y hs hu hy=>?_,fun p j q k n h1 h2=>?_,fun p j n h=>?_⟩
 ·refine (r.blk k (Nat.lt_of_lt_of_le hk C.gr.size) (by omega) fun e=>?_).trans (C.gr.block k hk (by simp))
  have:=(C.lo 1 t k (by rw [hv]; exact e.symm)).1
  omega
 ·rw [q5]
  rcases (show t=0∨t=1 by omega) with rfl | rfl<;>rfl
 ·obtain ⟨arr,ty',e,hs⟩:=C.rbc
  exact ⟨arr,ty',(kb 0 1 rb rfl (by omega) (by omega)).trans e,hs⟩
 ·by_cases e:s=t
  ·subst e
   rw [up_same,up_same,List.length_append]
   exact q3
  ·rw [up_other _ _ e,up_other _ _ e]
   exact owns_keep (C.row s hs) fun k hk=>kb 1 s k (by rw [cpBlk_v hs]; exact hk) (by omega) (by omega)
 ·by_cases e:s=t
  ·subst e
   rw [up_same,up_same,List.length_append,List.length_append,C.len s hs]; rfl
  ·rw [up_other _ _ e,up_other _ _ e]; exact C.len s hs
 ·have old:∀ (u:Value) (y:List Int),(U s)[j]?=some u→(X s)[j]?=some y→w'.ownsRow 0 fI 1 u y.length (y.map (Value.int .i64))∧0 < y.length:=fun u y hu hy=>
   ⟨owns_keep (C.inn s j u y hs hu hy).1 fun k hk=>kb (2 + s) j k (by rw [cpBlk_u hs,hu]; exact hk) (by omega) (by omega),(C.inn s j u y hs hu hy).2⟩
  by_cases e:s=t
  ·subst e
   rw [up_same,List.getElem?_append] at hu hy
   rw [C.len s hs] at hu
   split at hu
   ·rename_i hj
    rw [if_pos hj] at hy
    exact old u y hu hy
   ·rename_i hj
    rw [if_neg hj] at hy
    have hj0:j - (X s).length=0:=by
     have:=(List.getElem?_eq_some_iff.1 hu).1
     simp at this
     omega
    rw [hj0] at hu hy
    cases hu; cases hy
    exact ⟨q1,hx⟩
  ·rw [up_other _ _ e] at hu hy
   exact old u y hu hy
 ·rcases key p j n h1 with a1 | ⟨a1,a2,a3,a4,a5⟩ | ⟨a1,a2,a3⟩<;>rcases key q k n h2 with b1 | ⟨b1,b2,b3,b4,b5⟩ | ⟨b1,b2,b3⟩
  ·exact C.inj p j q k n a1 b1
  ·have:=(C.lo p j n a1).2; omega
  ·have:=(C.lo p j n a1).2; omega
  ·have:=(C.lo q k n b1).2; omega
  ·exact ⟨by omega,by omega⟩
  ·exact absurd b3 a5
  ·have:=(C.lo q k n b1).2; omega
  ·exact absurd a3 b5
  ·exact ⟨by omega,by omega⟩
 ·rcases key p j n h with a1 | ⟨_,_,a3,a4,_⟩ | ⟨_,_,rfl⟩
  ·exact ⟨(C.lo p j n a1).1,Nat.lt_of_lt_of_le (C.lo p j n a1).2 r.hs⟩
  ·exact ⟨Nat.le_trans C.gr.size a4,(q3.lt n a3).2⟩
  ·exact ⟨Nat.le_trans C.gr.size q2,(q1.lt _ rfl).2⟩
noncomputable abbrev fE:Env:=(twY fsF0 spF0).env real tab 0 0
theorem fE_ok:EnvOk Try.prog fE:=tower_ok mixedT tabOk (twY_ok fsF0_ok spF0_ok) 0 0
structure CpI (w0:World) (bx rb:Nat) (d:Int) (l:List (Nat × AVal)) (X:Nat→List (List Int)) (a:Act) (w:World):Prop where
 ex:∃ g V U,(∀ b,g.M b→b < w.heap.size)∧(∀ b,g.M b→∀ p j,cpBlk bx rb V U p j≠some b)∧TRep [] g w (aS 38 l) a.tmps∧Cp w0 w bx rb d V U X
 s2:a.tmps.getD 2 Go.undef=.pointer (some ⟨rb,0,none⟩)
 s3:a.tmps.getD 3 Go.undef=.pointer (some ⟨bx,0,none⟩)
 df:a.defers=[]
section
variable {w0:World} {bx rb:Nat} {d:Int} {X:Nat→List (List Int)}
theorem aS_len (n:Nat) (l:List (Nat × AVal)):(aS n l).length=n:=by
 have:∀ (l:List (Nat × AVal)) (t:List AVal),(l.foldl (fun t p=>t.set p.1 p.2) t).length=t.length:=by
  intro l
  induction l with
  | nil=>intro t; rfl
  | cons p l ih=>intro t; exact (ih _).trans List.length_set
 exact (this l _).trans List.length_replicate
theorem CpI.size {l:List (Nat × AVal)} {a:Act} {w:World} (C:CpI w0 bx rb d l X a w):a.tmps.size=38:=by
 obtain ⟨g,V,U,_,_,tr,_⟩:=C.ex
 rw [← tr.1,aS_len]
theorem CpI.weak {l l2:List (Nat × AVal)} {a:Act} {w:World} (C:CpI w0 bx rb d l X a w) (h:∀ p∈l2,(aS 38 l).getD p.1 .any=p.2):CpI w0 bx rb d l2 X a w:=by
 have hsz:=C.size
 obtain ⟨g,V,U,q1,q2,tr,q3⟩:=C.ex
 exact ⟨⟨g,V,U,q1,q2,trep_aS hsz fun p hp=>h p hp ▸ tr.get p.1,q3⟩,C.s2,C.s3,C.df⟩
theorem CpI.bool {l:List (Nat × AVal)} {a:Act} {w:World} (C:CpI w0 bx rb d l X a w) {t:Nat} {b:Bool} (h:(aS 38 l).getD t .any=.bool b):a.eval (.tmp t)=.bool b:=by
 obtain ⟨g,V,U,_,_,tr,_⟩:=C.ex
 have:=tr.get t
 rw [h] at this
 exact rep_bool this
theorem CpI.int {l:List (Nat × AVal)} {a:Act} {w:World} (C:CpI w0 bx rb d l X a w) {t:Nat} {n:Int} (h:(aS 38 l).getD t .any=.int .i64 n):a.tmps.getD t Go.undef=.int .i64 n:=by
 obtain ⟨g,V,U,_,_,tr,_⟩:=C.ex
 have:=tr.get t
 rw [h] at this
 exact rep_int this
theorem CpI.piece {id:Nat} {ops:Array Oper} {l l2:List (Nat × AVal)} {a:Act} {w:World} (C:CpI w0 bx rb d l X a w) (hp:evOps real tab fE false ops ops.toList ⟨aS 38 l,[]⟩ pairE=some (.normal,⟨aS 38 l2,[]⟩))
  (hd:ops.toList.all (fun o=>[2,3].all fun t=>o.dst != some t)=true) {Q:Exit→Act→World→Prop} (next:∀ a' w',CpI w0 bx rb d l2 X a' w'→Q .normal a' w'):WpR Try.prog (.region id ops false) Q a w:=by
 obtain ⟨g,V,U,q1,q2,tr,q3⟩:=C.ex
 refine pc (K:=fun b=>b < w.heap.size) tabOk fE_ok hp hd (st_no q1 fun _ h=>h) tr fun a' w' g' st le tr' df ks=>next a' w' ?_
 have gr:w.grownBy w' none:=⟨le.os,le.tape,le.output,le.size,fun k hk _=>le.k k hk⟩
 refine ⟨⟨g',V,U,st.low,fun b hb p j e=>?_,tr',q3.same gr⟩,(ks 2 (by simp)).trans C.s2,(ks 3 (by simp)).trans C.s3,df.trans C.df⟩
 rcases le.new b hb with h | h
 ·exact q2 b h p j e
 ·exact h (q3.lo p j b e).2
end
def cpX' (A B:List (List Int)) (s:Nat):List (List Int):=if s=0 then A else B
def cpT (A B:List (List Int)) (t:Nat):Nat→List (List Int):=fun s=>if s < t∧s < 2 then cpX' A B s else []
def lI (A B:List (List Int)) (t:Nat) (L:List (List Int)) (j:Int):List (Nat × AVal):=[(12,LsA A B),(13,.int .i64 (t:Int)),(4,.int .i64 (t:Int)),(17,.ro LsSh L),(18,.int .i64 (L.length:Int)),(19,.int .i64 j)]
theorem cp_p6 (A B:List (List Int)) (t:Nat) (L:List (List Int)) (j:Int):evOps real tab fE false cp6 cp6.toList ⟨aS 38 (lI A B t L j),[]⟩ pairE=some (.normal,⟨aS 38 (lI A B t L j++[(20,.bool (decide (j < (L.length:Int))))]),[]⟩):=by kernel_rfl
theorem cp_p7' (A B:List (List Int)) (t:Nat) (L:List (List Int)) (j:Int):evOps real tab fE false cp7 cp7.toList ⟨aS 38 (lI A B t L j),[]⟩ pairE=if 0≤j∧j < (L.length:Int) then some (.normal,⟨aS 38 (lI A B t L j++[(21,.rp [.ro (.int .i64) (L.getD j.toNat [])]),(22,.ro (.int .i64) (L.getD j.toNat [])),(7,.ro (.int .i64) (L.getD j.toNat []))]),[]⟩) else none:=by kernel_rfl
theorem cp_p9 (A B:List (List Int)) (t:Nat) (L:List (List Int)) (j:Int):evOps real tab fE false cp9 cp9.toList ⟨aS 38 (lI A B t L j),[]⟩ pairE=some (.normal,⟨aS 38 (lI A B t L (IntKind.i64.wrap (j + 1))++[(35,.int .i64 (IntKind.i64.wrap (j + 1)))]),[]⟩):=by kernel_rfl
theorem cp_d6:cp6.toList.all (fun o=>[2,3].all fun t=>o.dst != some t)=true:=by kernel_rfl
theorem cp_d7:cp7.toList.all (fun o=>[2,3].all fun t=>o.dst != some t)=true:=by kernel_rfl
theorem cp_d9:cp9.toList.all (fun o=>[2,3].all fun t=>o.dst != some t)=true:=by kernel_rfl
theorem ro_cells {h:List ABlk} {g:Gh} {w:World} {xs:List Int} {v:Value} (r:Rep h g w (.ro (.int .i64) xs) v) (h0:0 < xs.length) (low:∀ b,g.M b→b < w.heap.size) :
  ∃ ad m,v=.slice (some ad) xs.length m∧(∀ (j:Nat) u,(xs.map (Value.int .i64))[j]?=some u→w.cell? (ad.add j)=some u)∧ad.block < w.heap.size:=by
 generalize hc:AVal.ro (.int .i64) xs=c at r
 cases r with
 | ro0 e p c _ _=>cases hc; exact absurd h0 (Nat.lt_irrefl 0)
 | ro1 e ys b o c us k0 k1 k2 hM hcell hrep=>
   cases hc
   refine ⟨⟨b,o,none⟩,c,rfl,fun j u hu=>?_,low b hM⟩
   rw [List.getElem?_map] at hu
   cases hx:xs[j]? with
   | none=>rw [hx] at hu; cases hu
   | some x=>
     rw [hx] at hu
     cases hu
     have h1:=hcell j x 0 (.int .i64 x) hx rfl
     have h2:=rep_int (hrep j x 0 (.int .i64 x) hx rfl)
     rw [h2] at h1
     rw [Addr.add_lit]
     have e1:o + j * Sh.size (.int .i64) + 0=o + j:=by
      show o + j * 1 + 0=o + j
      omega
     rw [e1] at h1
     exact h1
 | _=>cases hc
section
variable {w0:World} {bx rb:Nat} {d:Int} {A B:List (List Int)}
theorem cp_r8 {X:Nat→List (List Int)} {t:Nat} (ht:t < 2) {L:List (List Int)} {j:Int} {x:List Int} (hx:0 < x.length∧x.length≤100) (hX:(X t).length≤100) {a:Act} {w:World} (C:CpI w0 bx rb d (lI A B t L j++[(7,.ro (.int .i64) x)]) X a w) {Q:Exit→Act→World→Prop}
  (next:∀ a' w',CpI w0 bx rb d (lI A B t L j) (up X t (X t++[x])) a' w'→Q .normal a' w'):WpR Try.prog (.region 8 cp8 true) Q a w:=by
 obtain ⟨g,V,U,q1,q2,tr,q3⟩:=C.ex
 obtain ⟨ad,m,e1,e2,e3⟩:=ro_cells (tr.get 7:Rep [] g w (.ro (.int .i64) x) _) hx.1 q1
 obtain ⟨ty,hb⟩:=q3.bxc
 have hv:cpBlk bx rb V U 1 t=(V t).ownBlock:=cpBlk_v ht
 have H:H8 w bx t #[.int .i64 d,V 0,V 1] ty (V t) (U t) (a.tmps.getD 7 Go.undef) x:=⟨ht,q3.row t ht,hb,rfl,by rcases (show t=0∨t=1 by omega) with rfl | rfl<;>rfl,fun e=>by
  have:=q3.inj 0 0 1 t bx rfl (by rw [hv]; exact e.symm)
  omega,by rw [q3.len t ht]; exact hX,hx,ad,m,e1,e2,e3⟩
 have h4:a.tmps.getD 4 Go.undef=.int .i64 (t:Int):=rep_int (tr.get 4:Rep [] g w (.int .i64 (t:Int)) _)
 refine wpR_mono (r8_wp C.size C.s3 h4 rfl H) fun e a' w' ⟨he,r⟩=>?_
 subst he
 obtain ⟨v',u,C',hnew⟩:=q3.step ht hx.1 r
 have same:∀ b,g.M b→w'.heap[b]?=w.heap[b]?:=fun b hb=>r.blk b (q1 b hb) (fun e=>q2 b hb 0 0 (by rw [e]; rfl)) fun e=>q2 b hb 1 t (by rw [hv]; exact e.symm)
 have le:=le_stay same r.os r.ta r.ou r.hs
 have keep:∀ s∈S8,∀ v,Rep [] g w v (a.tmps.getD s Go.undef)→Rep [] g w' v (a'.tmps.getD s Go.undef):=fun s hs v hr=>by rw [r.keep s hs]; exact hr.mono le
 refine next a' w' ⟨⟨g,_,_,fun b hb=>Nat.lt_of_lt_of_le (q1 b hb) r.hs,fun b hb p j e=>?_,trep_aS r.sz ?_,C'⟩,(r.keep 2 (by decide)).trans C.s2,(r.keep 3 (by decide)).trans C.s3,r.df.trans C.df⟩
 ·rcases hnew p j b e with h | h
  ·exact q2 b hb p j h
  ·have:=q1 b hb; omega
 ·simp only [lI,List.forall_mem_cons]
  exact ⟨keep 12 (by decide) _ (tr.get 12),keep 13 (by decide) _ (tr.get 13),keep 4 (by decide) _ (tr.get 4),keep 17 (by decide) _ (tr.get 17),keep 18 (by decide) _ (tr.get 18),keep 19 (by decide) _ (tr.get 19),fun p hp=>by cases hp⟩
/-! The inner loop. -/
def lMu (n:Nat) (a:Act):Nat:=match a.tmps.getD 19 Go.undef with
 | .int _ j=>(n - j).toNat
 | _=>0
theorem take_more {L:List (List Int)} {j:Nat} (hj:j < L.length):L.take j++[L.getD j []]=L.take (j + 1):=by
 rw [List.take_add_one,List.getD_eq_getElem?_getD,List.getElem?_eq_getElem hj]; rfl
theorem up_up {α:Type} (f:Nat→α) (t:Nat) (v u:α):up (up f t v) t u=up f t u:=by
 funext s
 unfold up
 split<;>rfl
theorem cp_inner {S:Nat→List (List Int)} {t:Nat} (ht:t < 2) {L:List (List Int)} (hL:L.length≤8∧∀ x∈L,0 < x.length∧x.length≤100) {a:Act} {w:World} (C:CpI w0 bx rb d (lI A B t L 0) (up S t []) a w) :
  WpR Try.prog (.loop cpL2) (fun e a' w'=>e=.exit 2∧CpI w0 bx rb d (lI A B t L (L.length:Int)) (up S t L) a' w') a w:=by
 refine wpR_loop (fun a w=>∃ j:Nat,j≤L.length∧CpI w0 bx rb d (lI A B t L (j:Int)) (up S t (L.take j)) a w) (fun a _=>lMu L.length a) ⟨0,Nat.zero_le _,by rw [List.take_zero]; exact C⟩ fun a w hI=>?_
 obtain ⟨j,hj,C⟩:=hI
 have mu:lMu L.length a=L.length - j:=by
  unfold lMu
  rw [C.int (t:=19) (n:=(j:Int)) rfl]
  show ((L.length:Int) - (j:Int)).toNat=_
  omega
 rw [cpL2_eq]
 refine wpR_seq (C.piece (cp_p6 A B t L (j:Int)) cp_d6 fun a1 w1 C1=>?_)
 have hb:=C1.bool (t:=20) (b:=decide ((j:Int) < (L.length:Int))) rfl
 have C2:CpI w0 bx rb d (lI A B t L (j:Int)) (up S t (L.take j)) a1 w1:=C1.weak (by
  simp only [lI,List.forall_mem_cons]
  exact ⟨rfl,rfl,rfl,rfl,rfl,rfl,fun p hp=>by cases hp⟩)
 rcases Nat.lt_or_ge j L.length with hlt | hge
 ·rw [decide_eq_true (show (j:Int) < (L.length:Int) by omega)] at hb
  refine wpR_seq (wpR_cond (t:=true) hb (wpR_skip ?_))
  have hx:=hL.2 (L.getD j []) (by rw [List.getD_eq_getElem?_getD,List.getElem?_eq_getElem hlt]; exact List.getElem_mem _)
  refine wpR_seq (wpR_block (wpR_seq (C2.piece ((cp_p7' A B t L (j:Int)).trans (if_pos ⟨by omega,by omega⟩)) cp_d7 fun a2 w2 C3=>?_)))
  rw [Int.toNat_natCast] at C3
  have C4:CpI w0 bx rb d (lI A B t L (j:Int)++[(7,.ro (.int .i64) (L.getD j []))]) (up S t (L.take j)) a2 w2:=C3.weak (by
   simp only [lI,List.cons_append,List.nil_append,List.forall_mem_cons]
   exact ⟨rfl,rfl,rfl,rfl,rfl,rfl,rfl,fun p hp=>by cases hp⟩)
  refine cp_r8 ht hx (by rw [up_same,List.length_take]; omega) C4 fun a3 w3 C5=>?_
  rw [up_up,up_same,take_more hlt] at C5
  refine C5.piece (cp_p9 A B t L (j:Int)) cp_d9 fun a4 w4 C6=>?_
  have ew:IntKind.i64.wrap ((j:Int) + 1)=((j + 1:Nat):Int):=wrap_next hlt (by have:maxLen=9223372036854775807:=rfl; omega)
  rw [ew] at C6
  have C7:CpI w0 bx rb d (lI A B t L ((j + 1:Nat):Int)) (up S t (L.take (j + 1))) a4 w4:=C6.weak (by
   simp only [lI,List.forall_mem_cons]
   exact ⟨rfl,rfl,rfl,rfl,rfl,rfl,fun p hp=>by cases hp⟩)
  refine ⟨⟨j + 1,hlt,C7⟩,?_⟩
  have mu4:lMu L.length a4=L.length - (j + 1):=by
   unfold lMu
   rw [C7.int (t:=19) (n:=((j + 1:Nat):Int)) rfl]
   show ((L.length:Int) - ((j + 1:Nat):Int)).toNat=_
   omega
  rw [mu,mu4]
  omega
 ·rw [decide_eq_false (show ¬ (j:Int) < (L.length:Int) by omega)] at hb
  refine wpR_seq (wpR_cond (t:=false) hb (wpR_exit ⟨rfl,?_⟩))
  have:j=L.length:=by omega
  subst this
  rw [List.take_length] at C2
  exact C2
end
/-! The outer loop. -/
def lO (A B:List (List Int)) (t:Nat):List (Nat × AVal):=[(12,LsA A B),(13,.int .i64 (t:Int))]
theorem cp_p3 (A B:List (List Int)) (t:Nat):evOps real tab fE false cp3 cp3.toList ⟨aS 38 (lO A B t),[]⟩ pairE=some (.normal,⟨aS 38 (lO A B t++[(14,.bool (decide ((t:Int) < 2)))]),[]⟩):=by kernel_rfl
def l4 (A B:List (List Int)) (t:Nat) (L:List (List Int)):List (Nat × AVal):=lO A B t++[(15,.int .i64 (t:Int)),(16,.ro LsSh L),(4,.int .i64 (t:Int)),(5,.ro LsSh L)]
theorem cp_p40 (A B:List (List Int)):evOps real tab fE false cp4 cp4.toList ⟨aS 38 (lO A B 0),[]⟩ pairE=some (.normal,⟨aS 38 (l4 A B 0 A),[]⟩):=by kernel_rfl
theorem cp_p41 (A B:List (List Int)):evOps real tab fE false cp4 cp4.toList ⟨aS 38 (lO A B 1),[]⟩ pairE=some (.normal,⟨aS 38 (l4 A B 1 B),[]⟩):=by kernel_rfl
theorem cp_p5 (A B:List (List Int)) (t:Nat) (L:List (List Int)):evOps real tab fE false cp5 cp5.toList ⟨aS 38 (l4 A B t L),[]⟩ pairE=some (.normal,⟨aS 38 (l4 A B t L++[(17,.ro LsSh L),(18,.int .i64 (L.length:Int)),(19,.int .i64 0)]),[]⟩):=by kernel_rfl
theorem cp_p10 (A B:List (List Int)) (t:Nat):evOps real tab fE false cp10 cp10.toList ⟨aS 38 (lO A B t),[]⟩ pairE=some (.normal,⟨aS 38 ([(12,LsA A B),(13,.int .i64 (IntKind.i64.wrap ((t:Int) + 1))),(36,.int .i64 (IntKind.i64.wrap ((t:Int) + 1)))]),[]⟩):=by kernel_rfl
theorem cp_d3:cp3.toList.all (fun o=>[2,3].all fun t=>o.dst != some t)=true:=by kernel_rfl
theorem cp_d4:cp4.toList.all (fun o=>[2,3].all fun t=>o.dst != some t)=true:=by kernel_rfl
theorem cp_d5:cp5.toList.all (fun o=>[2,3].all fun t=>o.dst != some t)=true:=by kernel_rfl
theorem cp_d10:cp10.toList.all (fun o=>[2,3].all fun t=>o.dst != some t)=true:=by kernel_rfl
theorem cpT_up (A B:List (List Int)) {t:Nat} (ht:t < 2):up (cpT A B t) t (cpX' A B t)=cpT A B (t + 1):=by
 funext s
 unfold up cpT
 by_cases e:s=t
 ·subst e
  rw [if_pos rfl,if_pos ⟨by omega,ht⟩]
 ·rw [if_neg e]
  by_cases h:s < t∧s < 2
  ·rw [if_pos h,if_pos ⟨by omega,h.2⟩]
  ·rw [if_neg h,if_neg (by omega)]
theorem cpT_no (A B:List (List Int)) (t:Nat):up (cpT A B t) t []=cpT A B t:=by
 funext s
 unfold up cpT
 by_cases e:s=t
 ·subst e
  rw [if_pos rfl,if_neg (by omega)]
 ·rw [if_neg e]
def oMu (a:Act):Nat:=match a.tmps.getD 13 Go.undef with
 | .int _ j=>(2 - j).toNat
 | _=>0
def LsOk (L:List (List Int)):Prop:=L.length≤8∧∀ x∈L,0 < x.length∧x.length≤100
section
variable {w0:World} {bx rb:Nat} {d:Int} {A B:List (List Int)}
theorem cp_outer (hA:LsOk A) (hB:LsOk B) {a:Act} {w:World} (C:CpI w0 bx rb d (lO A B 0) (cpT A B 0) a w) :
  WpR Try.prog (.loop cpL1) (fun e a' w'=>e=.exit 0∧CpI w0 bx rb d (lO A B 2) (cpT A B 2) a' w') a w:=by
 refine wpR_loop (fun a w=>∃ t:Nat,t≤2∧CpI w0 bx rb d (lO A B t) (cpT A B t) a w) (fun a _=>oMu a) ⟨0,by omega,C⟩ fun a w hI=>?_
 obtain ⟨t,ht,C⟩:=hI
 have mu:oMu a=2 - t:=by
  unfold oMu
  rw [C.int (t:=13) (n:=(t:Int)) rfl]
  show ((2:Int) - (t:Int)).toNat=_
  omega
 rw [cpL1_eq]
 refine wpR_seq (C.piece (cp_p3 A B t) cp_d3 fun a1 w1 C1=>?_)
 have hb:=C1.bool (t:=14) (b:=decide ((t:Int) < 2)) rfl
 have C2:CpI w0 bx rb d (lO A B t) (cpT A B t) a1 w1:=C1.weak (by
  simp only [lO,List.forall_mem_cons]
  exact ⟨rfl,rfl,fun p hp=>by cases hp⟩)
 rcases Nat.lt_or_ge t 2 with hlt | hge
 ·rw [decide_eq_true (show (t:Int) < 2 by omega)] at hb
  refine wpR_seq (wpR_cond (t:=true) hb (wpR_skip ?_))
  have hL:LsOk (cpX' A B t):=by
   unfold cpX'
   split
   ·exact hA
   ·exact hB
  have p4:evOps real tab fE false cp4 cp4.toList ⟨aS 38 (lO A B t),[]⟩ pairE=some (.normal,⟨aS 38 (l4 A B t (cpX' A B t)),[]⟩):=by
   rcases (show t=0∨t=1 by omega) with rfl | rfl
   ·exact cp_p40 A B
   ·exact cp_p41 A B
  refine wpR_seq (wpR_block (wpR_seq (C2.piece p4 cp_d4 fun a2 w2 C3=>?_)))
  refine wpR_seq (C3.piece (cp_p5 A B t _) cp_d5 fun a3 w3 C4=>?_)
  have C5:CpI w0 bx rb d (lI A B t (cpX' A B t) 0) (up (cpT A B t) t []) a3 w3:=(cpT_no A B t).symm ▸ C4.weak (by
   simp only [lI,List.forall_mem_cons]
   exact ⟨rfl,rfl,rfl,rfl,rfl,rfl,fun p hp=>by cases hp⟩)
  refine wpR_block (wpR_mono (cp_inner hlt hL C5) fun e a4 w4 ⟨he,C6⟩=>?_)
  subst he
  rw [cpT_up A B hlt] at C6
  have C7:CpI w0 bx rb d (lO A B t) (cpT A B (t + 1)) a4 w4:=C6.weak (by
   simp only [lO,List.forall_mem_cons]
   exact ⟨rfl,rfl,fun p hp=>by cases hp⟩)
  show WpR Try.prog (.region 10 cp10 false) _ a4 w4
  refine C7.piece (cp_p10 A B t) cp_d10 fun a5 w5 C8=>?_
  have ew:IntKind.i64.wrap ((t:Int) + 1)=((t + 1:Nat):Int):=wrap_next hlt (by decide)
  rw [ew] at C8
  have C9:CpI w0 bx rb d (lO A B (t + 1)) (cpT A B (t + 1)) a5 w5:=C8.weak (by
   simp only [lO,List.forall_mem_cons]
   exact ⟨rfl,rfl,fun p hp=>by cases hp⟩)
  refine ⟨⟨t + 1,hlt,C9⟩,?_⟩
  have mu5:oMu a5=2 - (t + 1):=by
   unfold oMu
   rw [C9.int (t:=13) (n:=((t + 1:Nat):Int)) rfl]
   show ((2:Int) - ((t + 1:Nat):Int)).toNat=_
   omega
  rw [mu,mu5]
  omega
 ·rw [decide_eq_false (show ¬ (t:Int) < 2 by omega)] at hb
  refine wpR_seq (wpR_cond (t:=false) hb (wpR_exit ⟨rfl,?_⟩))
  have:t=2:=by omega
  subst this
  exact C2
end
/-! The start. -/
abbrev RvA (d:Int) (A B:List (List Int)):AVal:=.agg [.int .i64 d,.ro LsSh A,.ro LsSh B]
def cH0 (d:Int) (A B:List (List Int)):List ABlk:=[.box true [.int .i64 d,.ro LsSh A,.ro LsSh B],.row true fR LsSh [],.row true fR LsSh [],.box true [.int .i64 0,.own 1,.own 2]]
def cH1 (d:Int) (A B:List (List Int)):List ABlk:=cH0 d A B++[.row true fR LsSh [],.row true fR LsSh [],.box true [.int .i64 d,.nils,.nils]]
def l0 (d:Int) (A B:List (List Int)):List (Nat × AVal):=[(0,RvA d A B),(1,.op 0 0),(2,.op 3 0)]
def l1 (d:Int) (A B:List (List Int)):List (Nat × AVal):=l0 d A B++[(8,.op 0 0),(9,.int .i64 d),(10,.agg [.int .i64 d,.nils,.nils]),(3,.op 6 0)]
def l2 (d:Int) (A B:List (List Int)):List (Nat × AVal):=l1 d A B++[(11,.op 0 1),(12,LsA A B),(13,.int .i64 0)]
theorem cp_p0 (d:Int) (A B:List (List Int)):evOps real tab fE false cp0 cp0.toList ⟨aS 38 [(0,RvA d A B)],[]⟩ pairE=some (.normal,⟨aS 38 (l0 d A B),cH0 d A B⟩):=by kernel_rfl
theorem cp_p1 (d:Int) (A B:List (List Int)):evOps real tab fE false cp1 cp1.toList ⟨aS 38 (l0 d A B),cH0 d A B⟩ pairE=some (.normal,⟨aS 38 (l1 d A B),cH1 d A B⟩):=by kernel_rfl
theorem cp_p2 (d:Int) (A B:List (List Int)):evOps real tab fE false cp2 cp2.toList ⟨aS 38 (l1 d A B),cH1 d A B⟩ pairE=some (.normal,⟨aS 38 (l2 d A B),cH1 d A B⟩):=by kernel_rfl
theorem d_no (ops:Array Oper):ops.toList.all (fun o=>([]:List Nat).all fun t=>o.dst != some t)=true:=List.all_eq_true.2 fun _ _=>rfl
theorem box_at {K h g w} (s:St K h g w) {i:Nat} {wr:Bool} {cs:List AVal} (hi:h[i]?=some (.box wr cs)):∃ b arr t,g.ρ i=.pointer (some ⟨b,0,none⟩)∧w.heap[b]?=some (.cells arr t (0,0))∧arr.size=cs.length∧∀ (j:Nat) c x,cs[j]?=some c→arr[j]?=some x→c.scalar=true∧Rep h g w c x:=s.blk i _ hi
theorem op_at {h g w} {i off:Nat} {v:Value} (r:Rep h g w (.op i off) v) {wr:Bool} {cs:List AVal} (hi:h[i]?=some (.box wr cs)) {b:Nat} (hb:g.ρ i=.pointer (some ⟨b,0,none⟩)):v=.pointer (some ⟨b,off,none⟩):=by
 cases r with
 | op _ _ _ _ _ hv=>
   obtain ⟨b',e1,e2⟩:=hv wr cs hi
   rw [hb] at e1
   cases e1
   exact e2
theorem rep_agg0 {h g w} {cs:List AVal} {x:Value} (r:Rep h g w (.agg cs) x) (hp:∀ c∈cs,c.pure0=true) {h':List ABlk} {g':Gh} (hM:∀ b,g.M b→g'.M b):Rep h' g' w (.agg cs) x:=by
 cases r with
 | agg _ arr hl hr=>exact .agg _ _ hl fun j c x hc hx=>rep_pure0 (hr j c x hc hx) (hp c (List.mem_of_getElem? hc)) hM
theorem cp_start {M:Nat→Prop} {w0:World} (low:∀ b,M b→b < w0.heap.size) {d:Int} {A B:List (List Int)} {a:Act} (hsz:a.tmps.size=38) (hdf:a.defers=[]) (hm:Rep [] ⟨fun _=>Go.undef,M⟩ w0 (RvA d A B) (a.tmps.getD 0 Go.undef)) {x y:Code} {Q:Exit→Act→World→Prop}
  (next:∀ bx rb a' w',CpI w0 bx rb d (lO A B 0) (cpT A B 0) a' w'→WpR Try.prog x (Exit.then (WpR Try.prog y Q) Q) a' w'):WpR Try.prog (.seq (.region 0 cp0 false) (.seq (.region 1 cp1 false) (.seq (.seq (.region 2 cp2 false) x) y))) Q a w0:=by
 refine wpR_seq (pc (K:=fun b=>b < w0.heap.size) (S:=[]) tabOk fE_ok (cp_p0 d A B) (d_no _) (st_no low fun _ h=>h) (trep_aS hsz (by simp only [List.forall_mem_cons]; exact ⟨hm,fun p hp=>by cases hp⟩)) fun a1 w1 g1 s1 le1 tr1 df1 _=>?_)
 refine wpR_seq (pc (K:=fun b=>b < w0.heap.size) (S:=[]) tabOk fE_ok (cp_p1 d A B) (d_no _) s1 tr1 fun a2 w2 g2 s2 le2 tr2 df2 _=>?_)
 refine wpR_seq (wpR_seq (pc (K:=fun b=>b < w0.heap.size) (S:=[]) tabOk fE_ok (cp_p2 d A B) (d_no _) s2 tr2 fun a3 w3 g3 s3 le3 tr3 df3 _=>?_))
 have le:=le1.trans (le2.trans le3)
 obtain ⟨bx,arr,ty,e1,e2,e3,e4⟩:=box_at s3 (i:=6) (cs:=[.int .i64 d,.nils,.nils]) rfl
 obtain ⟨rb,arr',ty',f1,f2,f3,_⟩:=box_at s3 (i:=3) (cs:=[.int .i64 0,.own 1,.own 2]) rfl
 have a6:alive (cH1 d A B) 6:=⟨_,rfl,by simp⟩
 have a3':alive (cH1 d A B) 3:=⟨_,rfl,by simp⟩
 have bl6:blockOf (g3.ρ 6)=some bx:=by rw [e1]; rfl
 have bl3:blockOf (g3.ρ 3)=some rb:=by rw [f1]; rfl
 obtain ⟨k6,m6,z6⟩:=s3.sep 6 bx a6 bl6
 obtain ⟨k3,m3,z3⟩:=s3.sep 3 rb a3' bl3
 have hne:bx≠rb:=fun e=>by
  have:=s3.inj 6 3 bx a6 a3' bl6 (e ▸ bl3)
  omega
 have arr3:arr=#[.int .i64 d,.slice none 0 0,.slice none 0 0]:=by
  obtain ⟨L⟩:=arr
  match L,e3 with
  | [x,y,z],_=>
    have h0:=rep_int (e4 0 _ x rfl rfl).2
    have h1:=rep_nils (e4 1 _ y rfl rfl).2
    have h2:=rep_nils (e4 2 _ z rfl rfl).2
    rw [h0,h1,h2]
 subst arr3
 have hsz3:a3.tmps.size=38:=by rw [← tr3.1,aS_len]
 refine next bx rb a3 w3 ⟨⟨⟨fun _=>Go.undef,g3.M⟩,fun _=>.slice none 0 0,fun _=>[],s3.low,fun b hb p j e=>?_,trep_aS hsz3 ?_,⟨le.os,le.tape,le.output,le.size,fun k hk _=>le.k k hk⟩,⟨ty,e2⟩,⟨arr',ty',f2,f3⟩,fun t _=>World.ownsRow_nil w3 0 fR 1,fun t _=>?_,fun t j u x _ hu=>by simp at hu,fun p j q k b h1 h2=>?_,fun p j b h=>?_⟩,op_at (tr3.get 2) (i:=3) (off:=0) rfl f1,op_at (tr3.get 3) (i:=6) (off:=0) rfl e1,df3.trans (df2.trans (df1.trans hdf))⟩
 ·have:b=bx∨b=rb:=by
   match p,j,e with
   | 0,0,e=>cases e; exact .inl rfl
   | 0,1,e=>cases e; exact .inr rfl
   | 1,0,e=>cases e
   | 1,1,e=>cases e
   | 2,j,e=>simp [cpBlk] at e
   | 3,j,e=>simp [cpBlk] at e
  rcases this with rfl | rfl
  ·exact m6 hb
  ·exact m3 hb
 ·simp only [lO,List.forall_mem_cons]
  exact ⟨rep_agg0 (tr3.get 12:Rep (cH1 d A B) g3 w3 (LsA A B) _) (by simp only [List.forall_mem_cons]; exact ⟨rfl,rfl,fun p hp=>by cases hp⟩) fun _ h=>h,rep_pure0 (tr3.get 13:Rep (cH1 d A B) g3 w3 (.int .i64 0) _) rfl fun _ h=>h,fun p hp=>by cases hp⟩
 ·unfold cpT
  rw [if_neg (by omega)]
  rfl
 ·have tag:∀ p j b,cpBlk bx rb (fun _=>.slice none 0 0) (fun _=>[]) p j=some b→(p=0∧j=0∧b=bx)∨(p=0∧j=1∧b=rb):=fun p j b e=>by
   match p,j,e with
   | 0,0,e=>cases e; exact .inl ⟨rfl,rfl,rfl⟩
   | 0,1,e=>cases e; exact .inr ⟨rfl,rfl,rfl⟩
   | 1,0,e=>cases e
   | 1,1,e=>cases e
   | 2,j,e=>simp [cpBlk] at e
   | 3,j,e=>simp [cpBlk] at e
  rcases tag p j b h1 with ⟨x1,x2,x3⟩ | ⟨x1,x2,x3⟩<;>rcases tag q k b h2 with ⟨y1,y2,y3⟩ | ⟨y1,y2,y3⟩
  ·omega
  ·exact absurd (x3.symm.trans y3) hne
  ·exact absurd (y3.symm.trans x3) hne
  ·omega
 ·have tag:b=bx∨b=rb:=by
   match p,j,h with
   | 0,0,e=>cases e; exact .inl rfl
   | 0,1,e=>cases e; exact .inr rfl
   | 1,0,e=>cases e
   | 1,1,e=>cases e
   | 2,j,e=>simp [cpBlk] at e
   | 3,j,e=>simp [cpBlk] at e
  rcases tag with rfl | rfl
  ·exact ⟨Nat.le_of_not_lt k6,z6⟩
  ·exact ⟨Nat.le_of_not_lt k3,z3⟩
abbrev fV:TypeId:=25
theorem fV_sz:∃ fs i,Try.prog.underlying fV=some (.struct fs)∧Try.prog.info? fV=some i∧i.size=3:=by
 have h:(match tab.und fV with | some (.recd _)=>true | _=>false)=true:=by kernel_rfl
 obtain ⟨l,hl⟩:∃ l,tab.und fV=some (.recd l):=by
  cases he:tab.und fV with
  | none=>rw [he] at h; cases h
  | some x=>
    rw [he] at h
    cases x<;>first | exact ⟨_,rfl⟩ | cases h
 obtain ⟨fs,h1,_⟩:=und_recd tabOk hl
 have hz:tab.size fV=3:=by kernel_rfl
 obtain ⟨i,hi,hs,_⟩:=tab_size (T:=tab) tabOk (t:=fV) (by rw [hz]; decide)
 exact ⟨_,i,h1,hi,hs.trans hz⟩
theorem ldV_run {w:World} {b:Nat} {cs:Array Value} {ty:TypeId} (hg:w.heap[b]?=some (.cells cs ty (0,0))) (h3:cs.size=3):(loadVar fV ⟨b,0,none⟩).run Try.prog w=.ok (.agg cs) w:=by
 obtain ⟨fs,i,hu,hi,hs⟩:=fV_sz
 exact run_loadVar_row w b ty fV cs (0,0) _ hg hu rfl (by rw [hi]; simp [hs,h3])
theorem stV_run {w:World} {b:Nat} {old cs:Array Value} {ty:TypeId} (hg:w.heap[b]?=some (.cells old ty (0,0))) (ho:old.size=3) (h3:cs.size=3) (h1:cs.all (·.oneCell')=true):(storeVar fV ⟨b,0,none⟩ (.agg cs)).run Try.prog w=.ok () (w.setRow b cs):=by
 obtain ⟨fs,i,hu,hi,hs⟩:=fV_sz
 exact run_storeVar_row w b ty fV old cs hg (by rw [hi]; simp [hs,h3]) (ho.trans h3.symm) h1
theorem cp11_0:cp11[0]?=some (fcOp cp11 0)∧(fcOp cp11 0).guard=none∧(fcOp cp11 0).dst=some 37∧(fcOp cp11 0).op=.load fV (.tmp 3):=⟨by kernel_rfl,by kernel_rfl,by kernel_rfl,by kernel_rfl⟩
theorem cp11_1:cp11[1]?=some (fcOp cp11 1)∧(fcOp cp11 1).guard=none∧(fcOp cp11 1).dst=none∧(fcOp cp11 1).op=.store fV (.tmp 2) (.tmp 37):=⟨by kernel_rfl,by kernel_rfl,by kernel_rfl,by kernel_rfl⟩
theorem cp11_size:cp11.size=2:=by kernel_rfl
theorem owns_one {w:World} {base:Nat} {e:TypeId} {size:Nat} {v:Value} {n:Nat} {xs:List Value} (h:w.ownsRow base e size v n xs):v.oneCell'=true:=by
 rcases h.2 with ⟨h,_⟩ | ⟨g,cap,cur,h,_⟩<;>rw [h]<;>rfl
theorem Cp.setRb {w0 w:World} {bx rb:Nat} {d:Int} {V:Nat→Value} {U:Nat→List Value} {X:Nat→List (List Int)} (C:Cp w0 w bx rb d V U X) {cs:Array Value} (h3:cs.size=3):Cp w0 (w.setRow rb cs) bx rb d V U X:=by
 have kb:∀ p j b,cpBlk bx rb V U p j=some b→¬ (p=0∧j=1)→(w.setRow rb cs).heap[b]?=w.heap[b]?:=fun p j b hb hn=>setRow_other w rb b cs fun e=>hn (C.inj p j 0 1 b hb (by rw [e]; rfl))
 have gs:=grow_set w rb cs
 have hrb:=(C.lo 0 1 rb rfl).1
 obtain ⟨arr,ty,e,hs⟩:=C.rbc
 refine ⟨⟨gs.os.trans C.gr.os,gs.tape.trans C.gr.tape,gs.output.trans C.gr.output,Nat.le_trans C.gr.size gs.size,fun k hk hn=>(setRow_other w rb k cs (by omega)).trans (C.gr.block k hk hn)⟩,?_,⟨cs,ty,setRow_heap w rb arr cs ty (0,0) e,h3⟩,fun t ht=>owns_keep (C.row t ht) fun k hk=>kb 1 t k (by rw [cpBlk_v ht]; exact hk) (by omega),C.len,fun t j u x ht hu hx=>⟨owns_keep (C.inn t j u x ht hu hx).1 fun k hk=>kb (2 + t) j k (by rw [cpBlk_u ht,hu]; exact hk) (by omega),(C.inn t j u x ht hu hx).2⟩,C.inj,fun p j b hb=>⟨(C.lo p j b hb).1,by rw [setRow_size]; exact (C.lo p j b hb).2⟩⟩
 obtain ⟨ty',e'⟩:=C.bxc
 exact ⟨ty',(kb 0 0 bx rfl (by omega)).trans e'⟩
section
variable {w0:World} {bx rb:Nat} {d:Int} {A B:List (List Int)}
theorem cp_end {l:List (Nat × AVal)} {X:Nat→List (List Int)} {a:Act} {w:World} (C:CpI w0 bx rb d l X a w) {Q:Exit→Act→World→Prop}
  (next:∀ a' w' V U,Cp w0 w' bx rb d V U X→a'.tmps.getD 2 Go.undef=.pointer (some ⟨rb,0,none⟩)→a'.defers=[]→(∃ ty,w'.heap[rb]?=some (.cells #[.int .i64 d,V 0,V 1] ty (0,0)))→Q .ret a' w'):WpR Try.prog (.seq (.region 11 cp11 false) .ret) Q a w:=by
 have hsz:=C.size
 obtain ⟨g,V,U,_,_,_,q3⟩:=C.ex
 obtain ⟨ty,hb⟩:=q3.bxc
 obtain ⟨arr,ty',hr,h3⟩:=q3.rbc
 refine wpR_seq (wpR_region ?_)
 rw [cp11_size]
 show wpOpsIn (FW none) 0 Try.prog cp11 _ [0,1] a w
 refine wpOps_cons cp11_0.1 cp11_0.2.1 ?_
 have e3:a.eval (.tmp 3)=.pointer (some ⟨bx,0,none⟩):=C.s3
 refine wp_val (x:=.agg #[.int .i64 d,V 0,V 1]) (w':=w) (by simp [execOp,cp11_0.2.2.2,e3,Instr.loadAt,Instr.sureAddr,ldV_run hb rfl,Result.andThen]) ?_
 rw [cp11_0.2.2.1]
 refine wpOps_cons cp11_1.1 cp11_1.2.1 ?_
 have e2:(a.put (some 37) (.agg #[.int .i64 d,V 0,V 1])).eval (.tmp 2)=.pointer (some ⟨rb,0,none⟩):=(put_at a 37 _ (by decide)).trans C.s2
 have e37:(a.put (some 37) (.agg #[.int .i64 d,V 0,V 1])).eval (.tmp 37)=.agg #[.int .i64 d,V 0,V 1]:=put_getD_same a 37 _ (by rw [hsz]; decide)
 have hone:(#[.int .i64 d,V 0,V 1]:Array Value).all (·.oneCell')=true:=by
  have h0:=owns_one (q3.row 0 (by omega))
  have h1:=owns_one (q3.row 1 (by omega))
  have h2:(Value.int .i64 d).oneCell'=true:=rfl
  simp only [List.all_toArray,List.all_cons,List.all_nil,h0,h1,h2,Bool.and_true]
 refine wp_skip' (w':=w.setRow rb #[.int .i64 d,V 0,V 1]) (by simp [execOp,cp11_1.2.2.2,e2,e37,Instr.storeAt,Instr.sureAddr,stV_run hr h3 rfl hone,Result.andThen]) ?_
 rw [cp11_1.2.2.1]
 refine fun b _ _=>wpB_of (wpIn_ret (next _ _ V U (q3.setRb rfl) e2 C.df ⟨ty',setRow_heap w rb arr _ ty' (0,0) hr⟩))
end
theorem cp_res {tmps:Array Value} {w:World} {rb:Nat} {cs:Array Value} {ty:TypeId} (h2:tmps.getD 2 Go.undef=.pointer (some ⟨rb,0,none⟩)) (hg:w.heap[rb]?=some (.cells cs ty (0,0))) (h3:cs.size=3):(results Try.f15 tmps).run Try.prog w=.ok (.agg cs) w:=by
 have hres:Try.f15.results=#[.cell 2 fV]:=by kernel_rfl
 have h1:(resF tmps (.cell 2 fV)).run Try.prog w=.ok (.agg cs) w:=by
  simp only [resF]
  rw [h2]
  exact ldV_run hg h3
 rw [results_eq,hres,Array.mapM_eq_mapM_toList,bind_map_left,Sem.run_bind]
 show ((List.mapM (resF tmps) [.cell 2 fV]).run Try.prog w).andThen _=_
 rw [List.mapM_cons,Sem.run_bind,h1]
 rfl
def CpPost (w0:World) (d:Int) (X:Nat→List (List Int)) (e:Ending) (w:World):Prop:=∃ bx rb V U,e=.returned (.agg #[.int .i64 d,V 0,V 1])∧Cp w0 w bx rb d V U X
theorem copied_calls {M:Nat→Prop} {w:World} (low:∀ b,M b→b < w.heap.size) {d:Int} {A B:List (List Int)} (hA:LsOk A) (hB:LsOk B) {m:Value} (hm:Rep [] ⟨fun _=>Go.undef,M⟩ w (RvA d A B) m) :
  Calls Try.prog 15 #[m] w (CpPost w d (cpT A B 2)):=by
 have hbody:Try.f15.body=some cpA:=by kernel_rfl
 have hnt:Try.f15.ntmps=38:=by kernel_rfl
 refine calls_of_wpB Try.func15 hbody fun b hbf hbr=>?_
 have hfn:FnIn b.fn:=⟨_,by rw [hbf]; exact Try.func15⟩
 have main:WpR Try.prog cpA (bodyPostM (FW none) 0 Try.prog Try.f15 (CpPost w d (cpT A B 2))) { tmps:=#[m]++Array.replicate (Try.f15.ntmps - (#[m]:Array Value).size) Go.undef,defers:=[] } w:=by
  rw [hnt,cpA_eq]
  have hget:(#[m]++Array.replicate (38 - (#[m]:Array Value).size) Go.undef).getD 0 Go.undef=m:=by
   rw [Array.getD_eq_getD_getElem?,Array.getElem?_append_left (by simp)]
   rfl
  refine cp_start (a:={ tmps:=#[m]++Array.replicate (38 - (#[m]:Array Value).size) Go.undef,defers:=[] }) low (d:=d) (A:=A) (B:=B) (by simp) rfl (by show Rep [] _ w (RvA d A B) ((#[m]++Array.replicate (38 - (#[m]:Array Value).size) Go.undef).getD 0 Go.undef); rw [hget]; exact hm) fun bx rb a' w' C=>?_
  refine wpR_block (wpR_mono (cp_outer hA hB C) fun e a2 w2 ⟨he,C2⟩=>?_)
  subst he
  show WpR Try.prog (.seq (.region 11 cp11 false) .ret) _ a2 w2
  refine cp_end C2 fun a3 w3 V U C3 h2 hd ⟨ty,hr⟩=>?_
  show LeavesInM (FW none) 0 Try.prog Try.f15 a3.tmps (CpPost w d (cpT A B 2)) a3.defers .returning w3
  rw [hd]
  exact ⟨_,cp_res h2 hr rfl,bx,rb,V,U,rfl,C3⟩
 exact main b hfn hbr
noncomputable def fdA:Code:=(Try.f7.body).getD .ret
noncomputable def fdM:Code:=fcHd (fcTl (fcTl (fcTl fdA)))
noncomputable def fdL1:Code:=fcIn (fcIn (fcTl fdM))
noncomputable def fdB1:Code:=fcIn (fcHd (fcTl (fcTl fdL1)))
noncomputable def fdL2:Code:=fcIn (fcIn (fcTl (fcTl fdB1)))
noncomputable def fdB3:Code:=fcIn (fcHd (fcTl (fcTl fdL2)))
noncomputable def fdL3:Code:=fcIn (fcIn (fcTl (fcTl fdB3)))
noncomputable def fdB5:Code:=fcIn (fcHd (fcTl (fcTl fdL3)))
def fcThen:Code→Code | .cond _ a _=>a | c=>c
noncomputable def fd0:Array Oper:=fcOps (fcHd fdA)
noncomputable def fd1:Array Oper:=fcOps (fcHd (fcTl fdA))
noncomputable def fd2:Array Oper:=fcOps (fcHd (fcTl (fcTl fdA)))
noncomputable def fd3:Array Oper:=fcOps (fcHd fdM)
noncomputable def fd4:Array Oper:=fcOps (fcHd fdL1)
noncomputable def fd5:Array Oper:=fcOps (fcHd fdB1)
noncomputable def fd6:Array Oper:=fcOps (fcHd (fcTl fdB1))
noncomputable def fd7:Array Oper:=fcOps (fcHd fdL2)
noncomputable def fd8:Array Oper:=fcOps (fcHd fdB3)
noncomputable def fd9:Array Oper:=fcOps (fcHd (fcTl fdB3))
noncomputable def fd10:Array Oper:=fcOps (fcHd fdL3)
noncomputable def fd11:Array Oper:=fcOps (fcHd fdB5)
noncomputable def fd12:Array Oper:=fcOps (fcHd (fcHd (fcTl fdB5)))
noncomputable def fd13:Array Oper:=fcOps (fcThen (fcTl (fcHd (fcTl fdB5))))
noncomputable def fd14:Array Oper:=fcOps (fcHd (fcTl (fcTl fdB5)))
noncomputable def fd15:Array Oper:=fcOps (fcTl (fcTl (fcTl fdB5)))
noncomputable def fd16:Array Oper:=fcOps (fcTl (fcTl (fcTl fdL3)))
noncomputable def fd17:Array Oper:=fcOps (fcTl (fcTl (fcTl fdL2)))
noncomputable def fd18:Array Oper:=fcOps (fcTl (fcTl (fcTl fdL1)))
noncomputable def fd19:Array Oper:=fcOps (fcHd (fcTl (fcTl (fcTl (fcTl fdA)))))
theorem fdA_eq:fdA=.seq (.region 0 fd0 false) (.seq (.region 1 fd1 false) (.seq (.region 2 fd2 false) (.seq (.seq (.region 3 fd3 false) (.block 0 (.loop fdL1))) (.seq (.region 19 fd19 false) .ret)))):=by kernel_rfl
theorem fdL1_eq:fdL1=.seq (.region 4 fd4 false) (.seq (.cond (.tmp 17) .skip (.exit 0)) (.seq (.block 1 (.seq (.region 5 fd5 false) (.seq (.region 6 fd6 false) (.block 2 (.loop fdL2))))) (.region 18 fd18 false))):=by kernel_rfl
theorem fdL2_eq:fdL2=.seq (.region 7 fd7 false) (.seq (.cond (.tmp 22) .skip (.exit 2)) (.seq (.block 3 (.seq (.region 8 fd8 false) (.seq (.region 9 fd9 false) (.block 4 (.loop fdL3))))) (.region 17 fd17 false))):=by kernel_rfl
theorem fdL3_eq:fdL3=.seq (.region 10 fd10 false) (.seq (.cond (.tmp 28) .skip (.exit 4)) (.seq (.block 5 (.seq (.region 11 fd11 false) (.seq (.seq (.region 12 fd12 false) (.cond (.tmp 31) (.region 13 fd13 false) .skip)) (.seq (.region 14 fd14 false) (.region 15 fd15 false))))) (.region 16 fd16 false))):=by kernel_rfl
abbrev fA2:TypeId:=23
theorem ix_run0 (x y:Value) (w:World):(Instr.index fA2 (.agg #[x,y]) (.int .i64 ((0:Nat):Int))).run Try.prog w=.ok x w:=by kernel_rfl
theorem ix_run1 (x y:Value) (w:World):(Instr.index fA2 (.agg #[x,y]) (.int .i64 ((1:Nat):Int))).run Try.prog w=.ok y w:=by kernel_rfl
theorem ix_run {V:Nat→Value} {t:Nat} (ht:t < 2) (w:World):(Instr.index fA2 (.agg #[V 0,V 1]) (.int .i64 (t:Int))).run Try.prog w=.ok (V t) w:=by
 rcases (show t=0∨t=1 by omega) with rfl | rfl
 ·exact ix_run0 ..
 ·exact ix_run1 ..
theorem fQ_und:Try.prog.underlying fQ=some (.slice (Try.prog.elem fQ)):=by kernel_rfl
theorem len_run {o:Oper} {a:Act} {w:World} {x:Nat} (ho:o.op=.call { callee:=.builtin .len,args:=#[.tmp x],argTypes:=#[fQ] }) {p:Option Addr} {n c:Nat} (h:a.eval (.tmp x)=.slice p n c):(execOp a.eval o).run Try.prog w=.ok (.value (.int .i64 (n:Int))) w:=by
 have hl:(Builtin.len_ #[fQ] o.type #[.slice p n c]).run Try.prog w=.ok (.int .i64 (n:Int)) w:=by
  simp [Builtin.len_,run_underlying fQ_und,goInt]
 simp [execOp,ho,resolve,invoke,builtin,h,hl]
theorem ia22_run {g n c j:Nat} (hj:j < n) (w:World):(Instr.indexAt fQ (.slice (some ⟨g,0,none⟩) n c) (.int .i64 (j:Int))).run Try.prog w=.ok (.pointer (some ⟨g,j,none⟩)) w:=by
 have hs:(sizeOf (Try.prog.elem fQ)).run Try.prog w=.ok 1 w:=by kernel_rfl
 have hx:(Instr.indexAt fQ (.slice (some ⟨g,0,none⟩) n c) (.int .i64 (j:Int))).run Try.prog w=((sizeOf (Try.prog.elem fQ)).run Try.prog w).andThen fun s w=>.ok (.pointer (some ((⟨g,0,none⟩:Addr).add ((j:Int).toNat * s)))) w:=by
  simp [Instr.indexAt,run_underlying fQ_und,asIntOf,show j < n from hj]
 rw [hx,hs]
 have:(⟨g,0,none⟩:Addr).add ((j:Int).toNat * 1)=⟨g,j,none⟩:=by
  rw [Addr.add_lit,Int.toNat_natCast]
  simp
 show Result.ok (Value.pointer (some ((⟨g,0,none⟩:Addr).add ((j:Int).toNat * 1)))) w=_
 rw [this]
theorem ld57_run {w:World} {b o:Nat} {v:Value} (h:w.cell? ⟨b,o,none⟩=some v):(Instr.loadAt fR (.pointer (some ⟨b,o,none⟩))).run Try.prog w=.ok v w:=by
 have hr:(isAgg fR).run Try.prog w=.ok false w:=by kernel_rfl
 simp [Instr.loadAt,Instr.sureAddr,loadVar,hr,h]
theorem ld23_run {w:World} {b:Nat} {x y z:Value} {ty:TypeId} (hg:w.heap[b]?=some (.cells #[x,y,z] ty (0,0))):(Instr.loadAt fA2 (.pointer (some ⟨b,1,none⟩))).run Try.prog w=.ok (.agg #[y,z]) w:=by
 have hr:(isAgg fA2).run Try.prog w=.ok true w:=by kernel_rfl
 have hz:(sizeOf fA2).run Try.prog w=.ok 2 w:=by kernel_rfl
 have hl:=run_loadCells_list (P:=Try.prog) w ⟨b,1,none⟩ [y,z] (fun j v hv=>by
  rw [Addr.add_lit]
  simp only [World.cell?,hg]
  match j,hv with
  | 0,hv=>exact hv
  | 1,hv=>exact hv
  | j + 2,hv=>simp at hv)
 simp only [List.length_cons,List.length_nil] at hl
 simp [Instr.loadAt,Instr.sureAddr,loadVar,hr,hz,hl]
structure FiI (w0:World) (ob fb:Nat) (d:Int) (V:Nat→Value) (U:Nat→List Value) (Y:Nat→List (List Int)) (E:List (Nat × Value)) (l:List (Nat × AVal)) (a:Act) (w:World):Prop where
 ex:∃ g,(∀ b,g.M b→b < w.heap.size)∧(∀ b,g.M b→∀ p j,cpBlk ob fb V U p j≠some b)∧TRep [] g w (aS 53 l) a.tmps
 cp:Cp w0 w ob fb d V U Y
 es:∀ p∈E,a.tmps.getD p.1 Go.undef=p.2
 df:a.defers=[]
section
variable {w0:World} {ob fb:Nat} {d:Int} {V:Nat→Value} {U:Nat→List Value} {Y:Nat→List (List Int)} {E:List (Nat × Value)} {l:List (Nat × AVal)} {a:Act} {w:World}
theorem FiI.size (F:FiI w0 ob fb d V U Y E l a w):a.tmps.size=53:=by
 obtain ⟨g,_,_,tr⟩:=F.ex
 rw [← tr.1,aS_len]
theorem FiI.weak (F:FiI w0 ob fb d V U Y E l a w) {E':List (Nat × Value)} {l':List (Nat × AVal)} (hE:∀ p∈E',p∈E) (hl:∀ p∈l',(aS 53 l).getD p.1 .any=p.2):FiI w0 ob fb d V U Y E' l' a w:=by
 have hsz:=F.size
 obtain ⟨g,q1,q2,tr⟩:=F.ex
 exact ⟨⟨g,q1,q2,trep_aS hsz fun p hp=>hl p hp ▸ tr.get p.1⟩,F.cp,fun p hp=>F.es p (hE p hp),F.df⟩
theorem FiI.bool (F:FiI w0 ob fb d V U Y E l a w) {t:Nat} {b:Bool} (h:(aS 53 l).getD t .any=.bool b):a.eval (.tmp t)=.bool b:=by
 obtain ⟨g,_,_,tr⟩:=F.ex
 have:=tr.get t
 rw [h] at this
 exact rep_bool this
theorem FiI.int (F:FiI w0 ob fb d V U Y E l a w) {t:Nat} {n:Int} (h:(aS 53 l).getD t .any=.int .i64 n):a.tmps.getD t Go.undef=.int .i64 n:=by
 obtain ⟨g,_,_,tr⟩:=F.ex
 have:=tr.get t
 rw [h] at this
 exact rep_int this
theorem FiI.piece {id:Nat} {ops:Array Oper} {l2:List (Nat × AVal)} (F:FiI w0 ob fb d V U Y E l a w) (hp:evOps real tab fE false ops ops.toList ⟨aS 53 l,[]⟩ pairE=some (.normal,⟨aS 53 l2,[]⟩))
  (hd:ops.toList.all (fun o=>(E.map (·.1)).all fun t=>o.dst != some t)=true) {Q:Exit→Act→World→Prop} (next:∀ a' w',FiI w0 ob fb d V U Y E l2 a' w'→Q .normal a' w'):WpR Try.prog (.region id ops false) Q a w:=by
 obtain ⟨g,q1,q2,tr⟩:=F.ex
 refine pc (K:=fun b=>b < w.heap.size) tabOk fE_ok hp hd (st_no q1 fun _ h=>h) tr fun a' w' g' st le tr' df ks=>next a' w' ?_
 have gr:w.grownBy w' none:=⟨le.os,le.tape,le.output,le.size,fun k hk _=>le.k k hk⟩
 refine ⟨⟨g',st.low,fun b hb p j e=>?_,tr'⟩,F.cp.same gr,fun p hp=>(ks p.1 (List.mem_map.2 ⟨p,hp,rfl⟩)).trans (F.es p hp),df.trans F.df⟩
 rcases le.new b hb with h | h
 ·exact q2 b h p j e
 ·exact h (F.cp.lo p j b e).2
theorem FiI.val (F:FiI w0 ob fb d V U Y E l a w) {t:Nat} {v:Value} (ht:t < 53) (hl:∀ p∈l,p.1≠t) (hE:∀ p∈E,p.1≠t):FiI w0 ob fb d V U Y ((t,v) :: E) l (a.put (some t) v) w:=by
 have hsz:=F.size
 obtain ⟨g,q1,q2,tr⟩:=F.ex
 have hg:∀ p∈l,(aS 53 l).getD p.1 .any=(aS 53 l).getD p.1 .any:=fun _ _=>rfl
 refine ⟨⟨g,q1,q2,?_⟩,F.cp,fun p hp=>?_,F.df⟩
 ·refine ⟨by rw [put_size]; exact tr.1,fun j c x hc hx=>?_⟩
  by_cases e:j=t
  ·subst e
   -- a slot that is not among the known ones
   have:(aS 53 l)[j]?=some .any:=by
    have key:∀ (l:List (Nat × AVal)) (ts:List AVal),(∀ p∈l,p.1≠j)→ts[j]?=some .any→(l.foldl (fun t p=>t.set p.1 p.2) ts)[j]?=some .any:=by
     intro l
     induction l with
     | nil=>intro ts _ h; exact h
     | cons p l ih=>
       intro ts hl h
       refine ih _ (fun q hq=>hl q (List.mem_cons_of_mem _ hq)) ?_
       rw [List.getElem?_set_ne (hl p List.mem_cons_self)]
       exact h
    exact key l _ hl (by rw [List.getElem?_replicate,if_pos ht])
   rw [this] at hc
   cases hc
   exact .any x
  ·refine tr.2 j c x hc ?_
   have:(a.put (some t) v).tmps[j]?=a.tmps[j]?:=by
    show (a.tmps.setIfInBounds t v)[j]?=_
    rw [Array.getElem?_setIfInBounds,if_neg fun h=>e h.symm]
   rw [← this]; exact hx
 ·rcases List.mem_cons.1 hp with rfl | hp
  ·exact put_getD_same a t v (by rw [hsz]; exact ht)
  ·exact (put_at a t v (hE p hp)).trans (F.es p hp)
theorem FiI.toL (F:FiI w0 ob fb d V U Y E l a w) {t:Nat} {n:Int} (h:(t,.int .i64 n)∈E):FiI w0 ob fb d V U Y E (l++[(t,.int .i64 n)]) a w:=by
 obtain ⟨g,q1,q2,tr⟩:=F.ex
 refine ⟨⟨g,q1,q2,?_⟩,F.cp,F.es,F.df⟩
 have e:aS 53 (l++[(t,.int .i64 n)])=(aS 53 l).set t (.int .i64 n):=by
  unfold aS
  rw [List.foldl_append]; rfl
 rw [e]
 refine trep_set tr ?_
 rw [F.es _ h]
 exact .int .i64 n
end
/-! The pieces of the loop. -/
abbrev fRp (d:Int) (A B:List (List Int)):AVal:=.rp [.int .i64 d,.ro LsSh A,.ro LsSh B]
def lF (o:List Int) (d:Int) (A B:List (List Int)) (i:Int) (r:List (Nat × AVal)):List (Nat × AVal):=(1,.ro (.int .u8) o) :: (2,fRp d A B) :: (6,.int .i64 i) :: r
def lK (t n j:Int) (r:List (Nat × AVal)):List (Nat × AVal):=(16,.int .i64 t) :: (20,.int .i64 n) :: (21,.int .i64 j) :: r
def lJ (d k:Int) (r:List (Nat × AVal)):List (Nat × AVal):=(26,.int .i64 d) :: (27,.int .i64 k) :: r
section
variable (o:List Int) (d:Int) (A B:List (List Int)) (i t n j k:Int)
theorem fd_p10:evOps real tab fE false fd10 fd10.toList ⟨aS 53 (lF o d A B i (lK t n j (lJ d k []))),[]⟩ pairE=some (.normal,⟨aS 53 (lF o d A B i (lK t n j (lJ d k [(28,.bool (decide (k < d)))]))),[]⟩):=by kernel_rfl
theorem fd_p11:evOps real tab fE false fd11 fd11.toList ⟨aS 53 (lF o d A B i (lK t n j (lJ d k []))),[]⟩ pairE=some (.normal,⟨aS 53 (lF o d A B i (lK t n j (lJ d k [(11,.int .i64 9)]))),[]⟩):=by kernel_rfl
theorem fd_p12:evOps real tab fE false fd12 fd12.toList ⟨aS 53 (lF o d A B i (lK t n j (lJ d k [(11,.int .i64 9)]))),[]⟩ pairE=some (.normal,⟨aS 53 (lF o d A B i (lK t n j (lJ d k [(11,.int .i64 9),(29,.ro (.int .u8) o),(30,.int .i64 (o.length:Int)),(31,.bool (decide ((o.length:Int) > 0)))]))),[]⟩):=by kernel_rfl
def u8N (o:List Int) (i:Int):Int:=(IntKind.i64.wrap (o.getD (i.tmod (o.length:Int)).toNat 0)).tmod 17
theorem fd_p13:evOps real tab fE false fd13 fd13.toList ⟨aS 53 (lF o d A B i (lK t n j (lJ d k []))),[]⟩ pairE=if (o.length:Int)=0 then none else if 0≤i.tmod (o.length:Int)∧i.tmod (o.length:Int) < (o.length:Int) then
 some (.normal,⟨aS 53 (lF o d A B i (lK t n j (lJ d k [(32,.ro (.int .u8) o),(33,.int .i64 i),(34,.ro (.int .u8) o),(35,.int .i64 (o.length:Int)),(36,.int .i64 (i.tmod (o.length:Int))),(37,.rp [.int .u8 (o.getD (i.tmod (o.length:Int)).toNat 0)]),(38,.int .u8 (o.getD (i.tmod (o.length:Int)).toNat 0)),(39,.int .i64 (IntKind.i64.wrap (o.getD (i.tmod (o.length:Int)).toNat 0))),(40,.int .i64 (u8N o i)),(11,.int .i64 (u8N o i))]))),[]⟩) else none:=by kernel_rfl
theorem fd_p14 (x:List Int):evOps real tab fE false fd14 fd14.toList ⟨aS 53 [(10,.own 0),(11,.int .i64 n)],[.row true fI (.int .i64) x]⟩ pairE=if 0≤n∧n < (x.length:Int) then if 0≤n∧n < (x.length:Int) then
 some (.normal,⟨aS 53 [(10,.own 0),(11,.int .i64 n),(41,.own 0),(42,.int .i64 n),(43,.oe 0 n.toNat 0),(44,.int .i64 (x.getD n.toNat 0)),(45,.int .i64 (IntKind.i64.wrap (x.getD n.toNat 0 + 1))),(46,.oe 0 n.toNat 0)],[.row true fI (.int .i64) (x.set n.toNat (IntKind.i64.wrap (x.getD n.toNat 0 + 1)))]⟩) else none else none:=by kernel_rfl
theorem fd_p15:evOps real tab fE false fd15 fd15.toList ⟨aS 53 (lF o d A B i (lK t n j (lJ d k []))),[]⟩ pairE=some (.normal,⟨aS 53 (lF o d A B (IntKind.i64.wrap (i + 1)) (lK t n j (lJ d k [(47,.int .i64 i),(48,.int .i64 (IntKind.i64.wrap (i + 1)))]))),[]⟩):=by kernel_rfl
theorem fd_p16:evOps real tab fE false fd16 fd16.toList ⟨aS 53 (lF o d A B i (lK t n j (lJ d k []))),[]⟩ pairE=some (.normal,⟨aS 53 (lF o d A B i (lK t n j (lJ d (IntKind.i64.wrap (k + 1)) [(49,.int .i64 (IntKind.i64.wrap (k + 1)))]))),[]⟩):=by kernel_rfl
end
def eE (ob fb:Nat) (V:Nat→Value) (r:List (Nat × Value)):List (Nat × Value):=(4,.pointer (some ⟨fb,0,none⟩)) :: (5,.pointer (some ⟨ob,0,none⟩)) :: (15,.agg #[V 0,V 1]) :: r
section
variable {w0:World} {ob fb:Nat} {d:Int} {V:Nat→Value} {U:Nat→List Value} {Y:Nat→List (List Int)} {l:List (Nat × AVal)} {a:Act} {w:World}
theorem Cp.write {w':World} (C:Cp w0 w ob fb d V U Y) {t j:Nat} (ht:t < 2) {u:Value} (hu:(U t)[j]?=some u) {x y:List Int} (hx:(Y t)[j]?=some x) (hl:y.length=x.length) (hy:w'.ownsRow 0 fI 1 u y.length (y.map (Value.int .i64)))
  (hb:∀ b,b < w.heap.size→u.ownBlock≠some b→w'.heap[b]?=w.heap[b]?) (os:w'.os=w.os) (ta:w'.tape=w.tape) (ou:w'.output=w.output) (sz:w.heap.size≤w'.heap.size):Cp w0 w' ob fb d V U (up Y t ((Y t).set j y)):=by
 have hub:∀ b,u.ownBlock=some b→cpBlk ob fb V U (2 + t) j=some b:=fun b h=>by rw [cpBlk_u ht,hu]; exact h
 have kb:∀ p q b,cpBlk ob fb V U p q=some b→¬ (p=2 + t∧q=j)→w'.heap[b]?=w.heap[b]?:=fun p q b h hn=>hb b (C.lo p q b h).2 fun e=>hn (C.inj p q (2 + t) j b h (hub b e))
 have hjlt:j < (Y t).length:=(List.getElem?_eq_some_iff.1 hx).1
 refine ⟨⟨os.trans C.gr.os,ta.trans C.gr.tape,ou.trans C.gr.output,Nat.le_trans C.gr.size sz,fun k hk hn=>?_⟩,?_,?_,fun s hs=>owns_keep (C.row s hs) fun k hk=>kb 1 s k (by rw [cpBlk_v hs]; exact hk) (by omega),fun s hs=>?_,fun s q v z hs hv hz=>?_,C.inj,fun p q b h=>⟨(C.lo p q b h).1,Nat.lt_of_lt_of_le (C.lo p q b h).2 sz⟩⟩
 ·refine (hb k (Nat.lt_of_lt_of_le hk C.gr.size) fun e=>?_).trans (C.gr.block k hk hn)
  have:=(C.lo (2 + t) j k (hub k e)).1
  omega
 ·obtain ⟨ty,e⟩:=C.bxc
  exact ⟨ty,(kb 0 0 ob rfl (by omega)).trans e⟩
 ·obtain ⟨arr,ty,e,hs⟩:=C.rbc
  exact ⟨arr,ty,(kb 0 1 fb rfl (by omega)).trans e,hs⟩
 ·by_cases e:s=t
  ·subst e
   rw [up_same,List.length_set]; exact C.len s hs
  ·rw [up_other _ _ e]; exact C.len s hs
 ·have old:∀ (z:List Int),¬ (s=t∧q=j)→(Y s)[q]?=some z→w'.ownsRow 0 fI 1 v z.length (z.map (Value.int .i64))∧0 < z.length:=fun z hn hz=>
   ⟨owns_keep (C.inn s q v z hs hv hz).1 fun k hk=>kb (2 + s) q k (by rw [cpBlk_u hs,hv]; exact hk) (by omega),(C.inn s q v z hs hv hz).2⟩
  by_cases e:s=t
  ·subst e
   rw [up_same,List.getElem?_set] at hz
   by_cases e2:j=q
   ·subst e2
    rw [if_pos rfl,if_pos hjlt] at hz
    cases hz
    rw [hu] at hv
    cases hv
    exact ⟨hy,by rw [hl]; exact (C.inn s j u x hs hu hx).2⟩
   ·rw [if_neg e2] at hz
    exact old z (by omega) hz
  ·rw [up_other _ _ e] at hz
   exact old z (by omega) hz
end
end Go.Proofs.Ytneggblnfobfcaa
