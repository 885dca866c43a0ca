/- Parts of the proof, in build order. -/
import Derived.Test.YtpigibmlkgjdkaaGreatM6
import Derived.ProofKit
import Derived.Test.YtpigibmlkgjdkaaGreatChecked
namespace Go.Proofs.YtpigibmlkgjdkaaGreat
open Go.RowKit
mutual
def fitB (P:Program):Sh→TypeId→Bool
 | .int k,t=>
   match P.underlying t with
   | some (.int j)=>decide (j=k)
   | _=>false
 | .bool,t=>
   match P.underlying t with
   | some .bool=>true
   | _=>false
 | .str,t=>
   match P.underlying t with
   | some .string=>true
   | _=>false
 | .recd fs,t=>
   match P.underlying t with
   | some (.struct l)=>decide (P.cellsOf t=fs.size)&&fitsB P fs l.toList 0
   | some (.array n u)=>decide (P.cellsOf t=fs.size)&&fitsA P fs u n
   | _=>false
 | .sl e,t=>
   match P.underlying t with
   | some (.slice u)=>decide (P.cellsOf u=e.size)&&decide (0 < e.size)&&fitB P e u
   | _=>false
 | .mp _ _,_=>false
def fitsB (P:Program):Shs→List Field→Nat→Bool
 | .nil,[],_=>true
 | .cons s r,f :: q,n=>decide (f.offset=n)&&decide (P.cellsOf f.type=s.size)&&fitB P s f.type&&fitsB P r q (n + s.size)
 | _,_,_=>false
def fitsA (P:Program):Shs→TypeId→Nat→Bool
 | .nil,_,0=>true
 | .cons s r,u,n + 1=>decide (P.cellsOf u=s.size)&&fitB P s u&&fitsA P r u n
 | _,_,_=>false
end
mutual
def Wf:(s:Sh)→s.ty→Prop
 | .int k,n=>(Lit.int k n).wf=true
 | .bool,_=>True
 | .str,s=>s.size≤maxLen
 | .recd fs,x=>Wfs fs x
 | .sl e,xs=>List.length (α:=e.ty) xs≤maxLen∧∀ x,List.Mem (α:=e.ty) x xs→Wf e x
 | .mp _ _,_=>False
def Wfs:(fs:Shs)→fs.ty→Prop
 | .nil,_=>True
 | .cons s r,x=>Wf s x.1∧Wfs r x.2
end
theorem opened_cells {w:World} {base n:Nat} {a:Addr} {cs:List Value} (h:w.cells? base a n=some cs):cs.length=n∧∀ i,i < n→w.cell? (a.add i)=cs[i]?:=by
 unfold World.cells? at h
 split at h
 ·exact ⟨by simpa using mapM_some_length h,fun i hi=>mapM_some_get h i i (by simp [hi])⟩
 ·cases h
def gA (w:World):Gh:=⟨fun _=>Go.undef,fun b=>b < w.heap.size⟩
section
variable {P:Program} {H:Type} {enc:TypeId × Value→H} {w:World} {base:Nat} {spare:Nat→Bool} {held:Bool}
def Opens (w:World) (s:Sh) (y:s.ty) (cs:List Value):Prop:=Wf s y∧cs.length=s.size∧∀ (j:Nat) c v,(s.cells y)[j]?=some c→cs[j]?=some v→Rep [] (gA w) w c v
theorem open_row {e:Sh} {a:Addr} {len cap:Nat} (hl:len≤cap) (hm:cap≤maxLen) (h0:0 < e.size)
 (each:∀ i,i < len→∃ cs,w.cells? base (a.add (i * e.size)) e.size=some cs∧∃ y:e.ty,Opens w e y cs):∃ y:(Sh.sl e).ty,Opens w (.sl e) y [.slice (some a) len cap]:=by
 rcases Nat.eq_zero_or_pos len with hz | hp
 ·subst hz
  refine ⟨([]:List e.ty),⟨Nat.zero_le _,fun x hx=>by cases hx⟩,rfl,fun j c v hc hv=>?_⟩
  match j with
  | 0=>cases hc; cases hv; exact .ro0 e _ _ hm fun h=>by cases h
  | j + 1=>cases hv
 ·obtain ⟨b,o,spot⟩:=a
  have hb:b < w.heap.size:=by
   obtain ⟨cs,h1,_⟩:=each 0 hp
   have:=World.cells?_block h1 h0
   unfold Addr.add at this
   split at this<;>exact this
  have hspot:spot=none:=by
   obtain ⟨cs,h1,y,_,h2,_⟩:=each 0 hp
   obtain ⟨hl,hc⟩:=opened_cells h1
   have h3:=hc 0 h0
   rw [List.getElem?_eq_getElem (by omega)] at h3
   simpa [Addr.add] using World.cell?_spot h3
  subst hspot
  have hadd:∀ o i,(Addr.mk b o none).add i=⟨b,o + i,none⟩:=fun o i=>Addr.add_lit ..
  let f:Nat→e.ty:=fun i=>if h:i < len then Classical.choose (Classical.choose_spec (each i h)).2 else e.dflt
  have hf:∀ i,i < len→∃ cs,w.cells? base (Addr.add ⟨b,o,none⟩ (i * e.size)) e.size=some cs∧Opens w e (f i) cs:=fun i hi=>by
   refine ⟨Classical.choose (each i hi),(Classical.choose_spec (each i hi)).1,?_⟩
   simp only [f,dif_pos hi]
   exact Classical.choose_spec (Classical.choose_spec (each i hi)).2
  have hget:∀ (n:Nat) (x:e.ty),((List.range len).map f)[n]?=some x→n < len∧x=f n:=fun n x hn=>by
   rw [List.getElem?_map] at hn
   rcases Nat.lt_or_ge n len with hlt | hge
   ·rw [List.getElem?_range hlt] at hn; cases hn; exact ⟨hlt,rfl⟩
   ·rw [List.getElem?_eq_none (by simpa using hge)] at hn; cases hn
  have hcell:∀ (n:Nat) (x:e.ty) (j:Nat) c,((List.range len).map f)[n]?=some x→(e.cells x)[j]?=some c→∃ u,w.cell? ⟨b,o + n * e.size + j,none⟩=some u∧Rep [] (gA w) w c u:=fun n x j c hn hc=>by
   obtain ⟨hlt,rfl⟩:=hget n x hn
   obtain ⟨cs,h1,_,h2,h3⟩:=hf n hlt
   obtain ⟨_,h4⟩:=opened_cells h1
   have hj:j < e.size:=by rw [← Sh.cells_size e (f n)]; exact (List.getElem?_eq_some_iff.1 hc).1
   have h5:=h4 j hj
   rw [hadd,hadd] at h5
   have hcs:cs[j]?=some cs[j]:=List.getElem?_eq_getElem (by omega)
   rw [hcs] at h5
   refine ⟨_,?_,h3 j c _ hc hcs⟩
   exact h5
  have hlen:((List.range len).map f).length=len:=by simp
  refine ⟨(List.range len).map f,⟨by show ((List.range len).map f).length≤_; omega,fun x hx=>?_⟩,rfl,fun j c v hc hv=>?_⟩
  ·obtain ⟨n,hn⟩:=List.mem_iff_getElem?.1 (show x∈(List.range len).map f from hx)
   obtain ⟨hlt,rfl⟩:=hget n x hn
   obtain ⟨cs,_,h2,_⟩:=hf n hlt
   exact h2
  ·match j with
   | 0=>
     cases hc; cases hv
     have:=Rep.ro1 (h:=[]) (g:=gA w) (w:=w) e ((List.range len).map f) b o cap (fun n j=>(w.cell? ⟨b,o + n * e.size + j,none⟩).getD Go.undef) (by omega) (by omega) hm hb
      (fun n x j c hn hc=>by obtain ⟨u,h1,_⟩:=hcell n x j c hn hc; rw [h1]; rfl)
      (fun n x j c hn hc=>by obtain ⟨u,h1,h2⟩:=hcell n x j c hn hc; rw [h1]; exact h2)
     rw [hlen] at this
     exact this
   | j + 1=>cases hv
theorem trod_arr {fuel n:Nat} {t u:TypeId} {cs:List Value} {x:DataW H × List MemPlace} (hu:P.underlying t=some (.array n u)) (h:DataW.trod enc P w base spare held fuel t cs=some x) :
 cs.length=P.cellsOf t∧∃ m,∀ i,i < n→∃ y,DataW.trod enc P w base spare held m u ((cs.drop (i * P.cellsOf u)).take (P.cellsOf u))=some y:=by
 cases fuel with
 | zero=>simp [DataW.trod] at h
 | succ m=>
   unfold DataW.trod at h
   rw [hu] at h
   split at h<;>simp_all
   obtain ⟨_,xs,hp,_⟩:=h
   refine ⟨m,fun i hi=>?_⟩
   have hg:=mapM_some_get hp i i (by simp [hi])
   have hl:=mapM_some_length hp
   simp only [List.length_range] at hl
   rw [List.getElem?_eq_getElem (by omega)] at hg
   generalize xs[i]=p at hg
   exact ⟨p.1,p.2,hg⟩
mutual
theorem open_sh:(s:Sh)→∀ (t:TypeId) (fuel:Nat) (cs:List Value) (x:DataW H × List MemPlace),fitB P s t=true→DataW.trod enc P w base spare held fuel t cs=some x→∃ y:s.ty,Opens w s y cs
 | .int k,t,fuel,cs,x,hf,h=>by
   simp only [fitB] at hf
   split at hf
   ·rename_i j hu
    have:=of_decide_eq_true hf
    subst this
    obtain ⟨n,rfl,_,hw⟩:=DataW.trod_int hu h
    refine ⟨(n:Int),hw,rfl,fun i c v hc hv=>?_⟩
    match i with
    | 0=>cases hc; cases hv; exact .int _ _
    | i + 1=>cases hv
   ·cases hf
 | .bool,t,fuel,cs,x,hf,h=>by
   simp only [fitB] at hf
   split at hf
   ·rename_i hu
    obtain ⟨b,rfl,_⟩:=DataW.trod_bool hu h
    refine ⟨b,trivial,rfl,fun i c v hc hv=>?_⟩
    match i with
    | 0=>cases hc; cases hv; exact .bool _
    | i + 1=>cases hv
   ·cases hf
 | .str,t,fuel,cs,x,hf,h=>by
   simp only [fitB] at hf
   split at hf
   ·rename_i hu
    obtain ⟨b,rfl,_,hl⟩:=DataW.trod_string hu h
    refine ⟨b,hl,rfl,fun i c v hc hv=>?_⟩
    match i with
    | 0=>cases hc; cases hv; exact .str _
    | i + 1=>cases hv
   ·cases hf
 | .recd fs,t,fuel,cs,x,hf,h=>by
   simp only [fitB] at hf
   split at hf
   ·rename_i l hu
    simp only [Bool.and_eq_true,decide_eq_true_eq] at hf
    obtain ⟨xs,n,_,_,hl,hx,hfl⟩:=DataW.trod_struct hu h
    obtain ⟨y,hy,hr⟩:=open_shs fs l.toList 0 n cs hf.2 (fun f hm=>by
     obtain ⟨i,hi⟩:=List.mem_iff_getElem?.1 hm
     have hi':l[i]?=some f:=by simpa using hi
     have hlt:i < xs.length:=by rw [hx]; exact (Array.getElem?_eq_some_iff.1 hi').1
     exact ⟨xs[i],by rw [hfl i f hi',List.getElem?_eq_getElem hlt]⟩) (by rw [hl,hf.1]; omega)
    refine ⟨y,hy,by rw [hl,hf.1]; rfl,fun j c v hc hv=>hr j c v hc (by rw [Nat.zero_add]; exact hv)⟩
   ·rename_i n u hu
    simp only [Bool.and_eq_true,decide_eq_true_eq] at hf
    obtain ⟨hl,m,hx⟩:=trod_arr hu h
    obtain ⟨y,hy,hr⟩:=open_sha fs u n 0 m cs hf.2 (fun i hi=>by rw [Nat.zero_add]; exact hx i hi) (by rw [hl,hf.1]; omega)
    refine ⟨y,hy,by rw [hl,hf.1]; rfl,fun j c v hc hv=>hr j c v hc (by rw [Nat.zero_mul,Nat.zero_add]; exact hv)⟩
   ·cases hf
 | .sl e,t,fuel,cs,x,hf,h=>by
   simp only [fitB] at hf
   split at hf
   ·rename_i u hu
    simp only [Bool.and_eq_true,decide_eq_true_eq] at hf
    obtain ⟨⟨h1,h2⟩,h3⟩:=hf
    rcases DataW.trod_slice hu h with ⟨rfl,-⟩ | ⟨a,len,cap,elems,rest,n,_,rfl,_,hb,hl,hm,hlen,hel,_,_⟩
    ·refine ⟨([]:List e.ty),⟨Nat.zero_le _,fun x hx=>by cases hx⟩,rfl,fun j c v hc hv=>?_⟩
     match j with
     | 0=>cases hc; cases hv; exact .ro0 e _ _ (Nat.zero_le _) fun _=>rfl
     | j + 1=>cases hv
    ·rw [h1] at hel
     refine open_row (base:=base) hl hm h2 fun i hi=>?_
     have he:=hel i hi
     rw [List.getElem?_eq_getElem (by omega)] at he
     obtain ⟨cs,e1,e2⟩:=Option.bind_eq_some_iff.1 he
     exact ⟨cs,e1,open_sh e u n cs _ h3 e2⟩
   ·cases hf
 | .mp _ _,t,fuel,cs,x,hf,h=>by simp [fitB] at hf
theorem open_shs:(fs:Shs)→∀ (l:List Field) (n0 fuel:Nat) (cs:List Value),fitsB P fs l n0=true →
 (∀ f∈l,∃ x:DataW H × List MemPlace,DataW.trod enc P w base spare held fuel f.type ((cs.drop f.offset).take (P.cellsOf f.type))=some x)→n0 + fs.size≤cs.length →
 ∃ y:fs.ty,Wfs fs y∧∀ (j:Nat) c v,(fs.cells y)[j]?=some c→cs[n0 + j]?=some v→Rep [] (gA w) w c v
 | .nil,l,n0,fuel,cs,hf,h,hl=>⟨(),trivial,fun j c v hc=>by simp [Shs.cells] at hc⟩
 | .cons s r,[],n0,fuel,cs,hf,h,hl=>by simp [fitsB] at hf
 | .cons s r,f :: q,n0,fuel,cs,hf,h,hl=>by
   simp only [fitsB,Bool.and_eq_true,decide_eq_true_eq] at hf
   obtain ⟨⟨⟨h1,h2⟩,h3⟩,h4⟩:=hf
   simp only [Shs.size] at hl
   obtain ⟨x,hx⟩:=h f (by simp)
   obtain ⟨y1,w1,l1,r1⟩:=open_sh s f.type fuel _ x h3 hx
   obtain ⟨y2,w2,r2⟩:=open_shs r q (n0 + s.size) fuel cs h4 (fun f' hm=>h f' (List.mem_cons_of_mem _ hm)) (by omega)
   refine ⟨(y1,y2),⟨w1,w2⟩,fun j c v hc hv=>?_⟩
   simp only [Shs.cells] at hc
   rcases Nat.lt_or_ge j s.size with hj | hj
   ·rw [List.getElem?_append_left (by rw [Sh.cells_size]; exact hj)] at hc
    refine r1 j c v hc ?_
    rw [h1,h2,List.getElem?_take,if_pos hj,List.getElem?_drop]
    exact hv
   ·rw [List.getElem?_append_right (by rw [Sh.cells_size]; exact hj),Sh.cells_size] at hc
    refine r2 _ c v hc ?_
    rw [show n0 + s.size + (j - s.size)=n0 + j by omega]
    exact hv
theorem open_sha:(fs:Shs)→∀ (u:TypeId) (n i0 fuel:Nat) (cs:List Value),fitsA P fs u n=true →
 (∀ i,i < n→∃ x:DataW H × List MemPlace,DataW.trod enc P w base spare held fuel u ((cs.drop ((i0 + i) * P.cellsOf u)).take (P.cellsOf u))=some x)→i0 * P.cellsOf u + fs.size≤cs.length →
 ∃ y:fs.ty,Wfs fs y∧∀ (j:Nat) c v,(fs.cells y)[j]?=some c→cs[i0 * P.cellsOf u + j]?=some v→Rep [] (gA w) w c v
 | .nil,u,n,i0,fuel,cs,hf,h,hl=>⟨(),trivial,fun j c v hc=>by simp [Shs.cells] at hc⟩
 | .cons s r,u,0,i0,fuel,cs,hf,h,hl=>by simp [fitsA] at hf
 | .cons s r,u,n + 1,i0,fuel,cs,hf,h,hl=>by
   simp only [fitsA,Bool.and_eq_true,decide_eq_true_eq] at hf
   obtain ⟨⟨h2,h3⟩,h4⟩:=hf
   simp only [Shs.size] at hl
   obtain ⟨x,hx⟩:=h 0 (by omega)
   obtain ⟨y1,w1,l1,r1⟩:=open_sh s u fuel _ x h3 hx
   have hm:(i0 + 1) * P.cellsOf u=i0 * P.cellsOf u + s.size:=by rw [Nat.add_mul,Nat.one_mul,h2]
   obtain ⟨y2,w2,r2⟩:=open_sha r u n (i0 + 1) fuel cs h4 (fun i hi=>by
    have:=h (i + 1) (by omega)
    rwa [show i0 + (i + 1)=i0 + 1 + i by omega] at this) (by rw [hm]; omega)
   refine ⟨(y1,y2),⟨w1,w2⟩,fun j c v hc hv=>?_⟩
   simp only [Shs.cells] at hc
   rcases Nat.lt_or_ge j s.size with hj | hj
   ·rw [List.getElem?_append_left (by rw [Sh.cells_size]; exact hj)] at hc
    refine r1 j c v hc ?_
    rw [h2,Nat.add_zero,List.getElem?_take,if_pos hj,List.getElem?_drop,← h2]
    exact hv
   ·rw [List.getElem?_append_right (by rw [Sh.cells_size]; exact hj),Sh.cells_size] at hc
    refine r2 _ c v hc ?_
    rw [hm,show i0 * P.cellsOf u + s.size + (j - s.size)=i0 * P.cellsOf u + j by omega]
    exact hv
end
end
end Go.Proofs.YtpigibmlkgjdkaaGreat
namespace Go.Proofs.YtpigibmlkgjdkaaGreat
def spoSh:Sh:=.recd (.cons (.int .i64) (.cons (.int .i64) .nil))
def iceSh:Sh:=.recd (.cons spoSh (.cons (.int .i64) (.cons (.int .i64) (.cons (.int .i64) (.cons (.sl (.int .i64)) (.cons (.sl (.int .i64)) .nil))))))
def graSh:Sh:=.recd (.cons (.int .i64) (.cons (.int .i64) (.cons (.int .i64) (.cons (.int .i64) (.cons (.int .i64) .nil)))))
def movSh:Sh:=.recd (.cons spoSh (.cons spoSh (.cons (.int .i64) .nil)))
def broSh:Sh:=.recd (.cons (.int .i64) (.cons (.int .i64) (.cons (.int .i64) .nil)))
def delSh:Sh:=.recd (.cons iceSh (.cons graSh (.cons (.sl broSh) (.cons (.int .i64) (.cons (.int .i64) .nil)))))
def bdySh:Sh:=.recd (.cons (.int .i64) (.cons (.int .i64) (.cons movSh (.cons .bool .nil))))
open Go.ChangeAt Go.ChangeShapes Go.RowKit Go.WideShapes
theorem own_knob:ownKnob Tryz.prog.godebug=none:=by kernel_rfl
theorem laid_out:laidOutB Tryz.prog=true:=by kernel_rfl
theorem post_of_below {H:Type} {enc:TypeId × Value→H} {P:Program} {f:Func} {s:ChangeSpec} {apart fresh handsOn again:Bool} {W W':World} {args:Array Value} {v:Value} {ds gs:List (DataW H)} {before pa pv:List MemPlace}
 (hW:DataW.Whole enc P f.params.toList s.vars apart W args.toList ds gs before)
 (hres:∀ (b:Nat) (sp:Nat→Bool) (hd:Bool),DataW.TrodAll enc P W' b sp hd f.resultTypes.toList (v.resultList f.resultTypes.size) (s.fn H (ds++gs)).results [])
 (hargs:∀ sp:Nat→Bool,(∀ p∈before,sp p.block=true)→DataW.TrodAll enc P W' 0 sp true f.params.toList args.toList (s.fn H (ds++gs)).args pa)
 (hvars:∀ sp:Nat→Bool,(∀ p∈before,sp p.block=true)→DataW.TrodVars enc P W' sp s.vars (s.fn H (ds++gs)).vars pv)
 (hps:before=pa++pv) (hb:Below W.heap.size W W')
 (hok:∀ (j:Nat) (t:TypeId) (r:Value),f.resultTypes[j]?=some t→(v.resultList f.resultTypes.size)[j]?=some r→Value.okWide P W' .any 0 t r) :
 s.post enc P f apart fresh handsOn again W args v W':=by
 have hold:∀ p∈before,(fun b=>decide (b < W.heap.size)) p.block=true:=fun p hp=>by simpa using hW.lt p hp
 have hlt:=hW.lt
 refine ⟨ds,gs,before,[],pa,pv,hW,hres _ _ _,hargs _ hold,hvars _ hold,hb.frame _,fun _=>?_⟩
 obtain ⟨_,_,_,_,_,hz,hn⟩:=hW
 refine ⟨hok,_,_,([]++pa)++pv,⟨[]++pa,pv,trodAll_append (hargs _ (fun _ _=>rfl)) (hres _ _ _),hvars _ (fun _ _=>rfl),rfl,?_,?_⟩,?_⟩
 ·intro b off hp
  have hm:MemPlace.cell b off∈before:=by rw [hps]; simpa using hp
  rw [hb.frozen (p:=⟨b,off,none⟩) (hlt _ hm)]
  exact hz b off hm
 ·intro ha
  have:=hn ha
  rw [hps] at this
  simpa using this
 ·intro p hp _
  rw [hps]
  simpa using hp
def Shs.vals:(fs:Shs)→fs.ty→List AVal
 | .nil,_=>[]
 | .cons s r,x=>s.val x.1 :: r.vals x.2
def fitsT (P:Program):Shs→List TypeId→Bool
 | .nil,[]=>true
 | .cons s r,t :: q=>fitB P s t&&(P.readableRec t&&decide (t < P.types.size))&&fitsT P r q
 | _,_=>false
section
variable {P:Program} {H:Type} {enc:TypeId × Value→H} {w:World} {base:Nat} {spare:Nat→Bool} {held:Bool}
theorem open_arg {s:Sh} {t:TypeId} {v:Value} {d:DataW H} {ps:List MemPlace} {r:Reach} {b0:Nat} (hf:fitB P s t=true) (hv:Value.okWide P w r b0 t v) (h:DataW.Trod enc P w base spare held t v d ps) :
 ∃ y:s.ty,Wf s y∧Rep [] (gA w) w (s.val y) v:=by
 obtain ⟨fuel,h⟩:=h
 obtain ⟨y,h1,h2,h3⟩:=open_sh s t fuel _ _ hf h
 refine ⟨y,h1,?_⟩
 have one:(∀ a,v≠.agg a)→s.cells y=[s.val y]→Rep [] (gA w) w (s.val y) v:=fun hn hc=>by
  have hcv:v.cells.toList=[v]:=by cases v<;>first | rfl | exact absurd rfl (hn _)
  exact h3 0 _ v (by rw [hc]; rfl) (by rw [hcv]; rfl)
 cases s with
 | recd fs=>
   simp only [fitB] at hf
   split at hf
   ·rename_i l hu
    simp only [Value.okWide,hu] at hv
    obtain ⟨cs,rfl,_⟩:=hv
    refine .agg _ _ ((Sh.cells_size (.recd fs) y).trans (by simpa [Value.cells] using h2.symm)) fun j c x hc hx=>h3 j c x hc (by simpa [Value.cells] using hx)
   ·rename_i n u hu
    simp only [Value.okWide,hu] at hv
    obtain ⟨cs,rfl,_⟩:=hv
    refine .agg _ _ ((Sh.cells_size (.recd fs) y).trans (by simpa [Value.cells] using h2.symm)) fun j c x hc hx=>h3 j c x hc (by simpa [Value.cells] using hx)
   ·cases hf
 | int k=>
   refine one (fun a e=>?_) rfl
   subst e
   simp only [fitB] at hf
   split at hf
   ·rename_i j hu
    simp [Value.okWide,hu,Cell.okWide,Cell.ok] at hv
   ·cases hf
 | bool=>
   refine one (fun a e=>?_) rfl
   subst e
   simp only [fitB] at hf
   split at hf
   ·rename_i hu
    simp [Value.okWide,hu,Cell.okWide,Cell.ok] at hv
   ·cases hf
 | str=>
   refine one (fun a e=>?_) rfl
   subst e
   simp only [fitB] at hf
   split at hf
   ·rename_i hu
    simp [Value.okWide,hu,Cell.okWide,Cell.ok] at hv
   ·cases hf
 | mp k v=>simp [fitB] at hf
 | sl e0=>
   refine one (fun a e=>?_) rfl
   subst e
   simp only [fitB] at hf
   split at hf
   ·rename_i u hu
    simp [Value.okWide,hu,Cell.okWide,Cell.ok] at hv
   ·cases hf
theorem open_all {r:Reach} {b0:Nat}:∀ (ss:Shs) (ts:List TypeId) (vs:List Value) (ds:List (DataW H)) (ps:List MemPlace),fitsT P ss ts=true→DataW.TrodAll enc P w base spare held ts vs ds ps →
 (∀ (j:Nat) t v,ts[j]?=some t→vs[j]?=some v→Value.okWide P w r b0 t v) →
 ∃ ys:ss.ty,Wfs ss ys∧(ss.vals ys).length=vs.length∧ds.length=ts.length∧∀ (j:Nat) c v,(ss.vals ys)[j]?=some c→vs[j]?=some v→Rep [] (gA w) w c v
 | .nil,[],vs,ds,ps,hf,h,hv=>by
   obtain ⟨rfl,rfl,rfl⟩:=trodAll_nil h
   exact ⟨(),trivial,rfl,rfl,fun j c v hc=>by simp [Shs.vals] at hc⟩
 | .cons s q,[],vs,ds,ps,hf,h,hv=>by simp [fitsT] at hf
 | .nil,_ :: _,vs,ds,ps,hf,h,hv=>by simp [fitsT] at hf
 | .cons s q,t :: ts,vs,ds,ps,hf,h,hv=>by
   simp only [fitsT,Bool.and_eq_true] at hf
   obtain ⟨v,vs',d,ds',p1,p2,rfl,rfl,rfl,h1,h2⟩:=trodAll_cons h
   obtain ⟨y,a1,a2⟩:=open_arg hf.1.1 (hv 0 t v rfl rfl) h1
   obtain ⟨ys,b1,b2,b3,b4⟩:=open_all q ts vs' ds' p2 hf.2 h2 fun j t v ht hv'=>hv (j + 1) t v (by simpa using ht) (by simpa using hv')
   refine ⟨(y,ys),⟨a1,b1⟩,by simp [Shs.vals,b2],by simp [b3],fun j c v hc hv'=>?_⟩
   cases j with
   | zero=>
     simp only [Shs.vals,List.getElem?_cons_zero,Option.some.injEq] at hc hv'
     subst hc; subst hv'; exact a2
   | succ j=>exact b4 j c v (by simpa [Shs.vals] using hc) (by simpa using hv')
theorem all_stays (hl:laidOutB P=true) {W W':World} {sp':Nat→Bool}:∀ (ss:Shs) (ts:List TypeId) (vs:List Value) (ds:List (DataW H)) (ps:List MemPlace),fitsT P ss ts=true→DataW.TrodAll enc P W base (fun _=>true) true ts vs ds ps →
 (∀ p∈ps,W.sameAt W' p)→(∀ p∈ps,sp' p.block=true)→DataW.TrodAll enc P W' base sp' true ts vs ds ps
 | .nil,[],vs,ds,ps,hf,h,_,_=>by
   obtain ⟨rfl,rfl,rfl⟩:=trodAll_nil h
   rfl
 | .cons s q,[],vs,ds,ps,hf,h,_,_=>by simp [fitsT] at hf
 | .nil,_ :: _,vs,ds,ps,hf,h,_,_=>by simp [fitsT] at hf
 | .cons s q,t :: ts,vs,ds,ps,hf,h,h1,h2=>by
   simp only [fitsT,Bool.and_eq_true,decide_eq_true_eq] at hf
   obtain ⟨v,vs',d,ds',p1,p2,rfl,rfl,rfl,a1,a2⟩:=trodAll_cons h
   exact ⟨p1,p2,WideElems.Trod_stays hl hf.1.2.1 hf.1.2.2 a1 (fun p hp=>h1 p (by simp [hp])) (fun p hp=>h2 p (by simp [hp])),
    all_stays hl q ts vs' ds' p2 hf.2 a2 (fun p hp=>h1 p (by simp [hp])) (fun p hp=>h2 p (by simp [hp])),rfl⟩
theorem law_post {F:List AVal→Option AOut} {fid:FuncId} {fn:Func} {s:ChangeSpec} {apart fresh handsOn again:Bool} (hF:FspOk P fid (toFsp F)) (hl:laidOutB P=true) (ss:Shs) (hfit:fitsT P ss fn.params.toList=true) (hnv:s.vars=[])
 {tb:TypeId} (hres:fn.resultTypes=#[tb]) (hb:P.underlying tb=some .bool) (hlaw:∀ ys:ss.ty,Wfs ss ys→F (ss.vals ys)=some (.ret (.bool true)))
 (hfn:∀ ds:List (DataW H),ds.length=fn.params.toList.length→(s.fn H ds).results=[.lit (.bool true)]∧(s.fn H ds).args=ds∧(s.fn H ds).vars=[])
 {W:World} {b0:Nat} {args:Array Value} {ds gs:List (DataW H)} {before:List MemPlace}
 (hval:∀ (j:Nat) t v,fn.params[j]?=some t→args[j]?=some v→Value.okWide P W .any b0 t v) (hW:DataW.Whole enc P fn.params.toList s.vars apart W args.toList ds gs before) :
 Calls P fid args W fun e W'=>∃ v,e=.returned v∧s.post enc P fn apart fresh handsOn again W args v W':=by
 have hW':=hW
 obtain ⟨p,q,hA,hV,rfl,hfz,hnd⟩:=hW
 rw [hnv] at hV
 obtain ⟨rfl,rfl⟩:=trodVars_none hV
 obtain ⟨ys,h1,h2,h3,h4⟩:=open_all ss _ _ _ _ hfit hA fun j t v ht hv=>hval j t v (by simpa using ht) (by simpa using hv)
 have hcall:=hF.calls (ss.vals ys) (.ret (.bool true)) (by unfold toFsp; rw [hlaw ys h1]) (fun b=>b < W.heap.size) W args (fun b hb=>hb) (by simpa using h2) fun j c x hc hx=>h4 j c x hc (by simpa using hx)
 refine hcall.mono fun e W' hp=>?_
 obtain ⟨M',_,_,_,hbl,x,rfl,hr⟩:=hp
 have:=rep_bool hr
 subst this
 obtain ⟨f1,f2,f3⟩:=hfn ds h3
 have hlt:∀ x∈p,x.block < W.heap.size:=fun x hx=>hW'.lt x (by simpa using hx)
 refine ⟨_,rfl,post_of_below (pa:=p++[]) (pv:=[]) hW' (fun b sp hd=>?_) (fun sp hsp=>?_) (fun sp hsp=>?_) (by simp) hbl (ok_one hres rfl (okWide_bool_mk hb _))⟩
 ·rw [List.append_nil,f1,hres]
  exact trodAll_mk1 (shut_bool hb _)
 ·rw [List.append_nil,f2,List.append_nil]
  exact all_stays hl ss _ _ _ _ hfit hA (fun x hx=>hbl.same (hlt x hx)) fun x hx=>hsp x (by simpa using hx)
 ·rw [List.append_nil,f3,hnv]
  rfl
end
end Go.Proofs.YtpigibmlkgjdkaaGreat
