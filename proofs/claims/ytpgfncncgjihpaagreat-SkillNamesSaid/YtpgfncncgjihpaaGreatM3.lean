/- Parts of the proof, in build order. -/
import Derived.Test.YtpgfncncgjihpaaGreatM2
import Derived.WideKeyRuns
namespace Go.Proofs.YtpgfncncgjihpaaGreat
open Go.RowKit
section
variable {P:Program} {T:Tab} {h:List ABlk} {g:Gh} {w:World}
structure OneIs (P:Program) (t:TypeId) (s:Sh) (a:s.ty) (x:Value):Prop where
 eq:∀(h:List ABlk) (g:Gh) (w w':World) (d:Nat) (b:s.ty) (y:Value),Rep h g w (s.val b) y→(Op.equalIn (d+1) t x y).run P w'=.ok (s.eqb a b) w'
 chk:∀(em:Bool) (n:Nat) (w':World),(Instr.checkKey em (n+1) t x).run P w'=.ok () w'
 det:∀(h:List ABlk) (g:Gh) (w:World) (b:s.ty) (y:Value),Rep h g w (s.val b) y→s.eqb a b=true→x=y
 bits:∀n,Instr.sameBits n x x=true
theorem rep_str {x:Value} {s:ByteArray} (r:Rep h g w (.str s) x):x=.string s:=by cases r; rfl
theorem one_is (hT:TabOk P T) {t:TypeId} {s:Sh} (ho:oneT T t s=true) {a:s.ty} {x:Value} (r:Rep h g w (s.val a) x):OneIs P t s a x∧s.cells a=[s.val a]∧isAggT T t=some false:=by
 cases s with
 |int k=>
  simp only[oneT] at ho
  split at ho
  ·rename_i j hu
   have hj:=of_decide_eq_true ho
   subst hj
   have hx:x=.int j a:=rep_int r
   subst hx
   refine⟨⟨fun h g w w' d b y ry=>?_,fun em n w'=>?_,fun h g w b y ry he=>?_,fun n=>?_⟩,rfl,?_⟩
   ·rw[rep_int (n:=b) ry]; simp[Op.equalIn,run_underlying (und_int hT hu),Sh.eqb]
   ·simp[Instr.checkKey,run_underlying (und_int hT hu)]
   ·rw[rep_int (n:=b) ry,(@beq_iff_eq Int _ _ a b).1 he]
   ·cases n<;>(simp only[Instr.sameBits,BEq.rfl,Bool.true_and]; exact (@beq_iff_eq Int _ _ a a).2 rfl)
   ·unfold isAggT; rw[hu]
  ·cases ho
 |bool=>
  simp only[oneT] at ho
  split at ho
  ·rename_i hu
   have hx:x=.bool a:=rep_bool r
   subst hx
   refine⟨⟨fun h g w w' d b y ry=>?_,fun em n w'=>?_,fun h g w b y ry he=>?_,fun n=>?_⟩,rfl,?_⟩
   ·rw[rep_bool (b:=b) ry]; simp[Op.equalIn,run_underlying (und_bool hT hu),Sh.eqb]
   ·simp[Instr.checkKey,run_underlying (und_bool hT hu)]
   ·rw[rep_bool (b:=b) ry,(@beq_iff_eq Bool _ _ a b).1 he]
   ·cases n<;>(simp only[Instr.sameBits]; exact (@beq_iff_eq Bool _ _ a a).2 rfl)
   ·unfold isAggT; rw[hu]
  ·cases ho
 |str=>
  simp only[oneT] at ho
  split at ho
  ·rename_i hu
   have hx:x=.string a:=rep_str r
   subst hx
   refine⟨⟨fun h g w w' d b y ry=>?_,fun em n w'=>?_,fun h g w b y ry he=>?_,fun n=>?_⟩,rfl,?_⟩
   ·rw[rep_str (s:=b) ry]; simp[Op.equalIn,run_underlying (und_str hT hu),Sh.eqb]
   ·simp[Instr.checkKey,run_underlying (und_str hT hu)]
   ·rw[rep_str (s:=b) ry]; have:a=b:=(MapKept.bytes_beq a b).1 he
    rw[this]
   ·cases n<;>(simp only[Instr.sameBits]; exact (MapKept.bytes_beq a a).2 rfl)
   ·unfold isAggT; rw[hu]
  ·cases ho
 |_=>cases ho
theorem part_one (hT:TabOk P T) {t:TypeId} (ha:isAggT T t=some false) {arr:Array Value} {off:Nat} {x:Value} (hx:arr[off]?=some x) (w:World):(part t arr off).run P w=.ok x w:=by
 have hrun:=(isAggT_run (w:=w) hT ha).1
 simp[part,hrun,hx]
def FromAt (h:List ABlk) (g:Gh) (w:World) (fs:Shs) (a:fs.ty) (ax:Array Value) (n:Nat):Prop:=∀(j:Nat) c,(fs.cells a)[j]?=some c→∃x,ax[n+j]?=some x∧Rep h g w c x
theorem FromAt.cons {s:Sh} {q:Shs} {a:(Shs.cons s q).ty} {ax:Array Value} {n:Nat} (f:FromAt h g w (.cons s q) a ax n) (hc:s.cells a.1=[s.val a.1]):(∃x,ax[n]?=some x∧Rep h g w (s.val a.1) x)∧FromAt h g w q a.2 ax (n+1):=by
 constructor
 ·have:=f 0 (s.val a.1) (by simp only[Shs.cells,hc]; rfl)
  simpa using this
 ·intro j c hj
  have:=f (j+1) c (by simp only[Shs.cells,hc]; simpa using hj)
  rw[show n+1+j=n+(j+1) by omega]; exact this
theorem one_cell {s:Sh} {t:TypeId} (ho:oneT T t s=true) (a:s.ty):s.cells a=[s.val a]:=by
 cases s<;>first|rfl|cases ho
theorem flat_eq (hT : TabOk P T) (d : Nat) {ax ay : Array Value} {h' : List ABlk} {g' : Gh} {w0 w' : World} : ∀ (F : List Field) (fs : Shs) (n : Nat) (a b : fs.ty), flatF T (F.map fun f => (f.offset, f.type)) fs n = true → (∀ f ∈ F, f.name ≠ "_") →
  FromAt h g w fs a ax n→FromAt h' g' w0 fs b ay n→(Op.eqFields (d+1) ax ay F).run P w'=.ok (fs.eqb a b) w'
 | [],.nil,n,a,b,_,_,_,_=>by simp[Op.eqFields,Shs.eqb]
 | [],.cons s q,n,a,b,hf,_,_,_=>by simp[flatF] at hf
 |f::F,.nil,n,a,b,hf,_,_,_=>by simp[flatF] at hf
 |f::F,.cons s q,n,a,b,hf,hn,fa,fb=>by
  simp only[List.map_cons,flatF,Bool.and_eq_true,decide_eq_true_eq] at hf
  obtain⟨⟨h1,h2⟩,h3⟩:=hf
  obtain⟨⟨x,hx,rx⟩,fa'⟩:=fa.cons (one_cell h2 a.1)
  obtain⟨⟨y,hy,ry⟩,fb'⟩:=fb.cons (one_cell h2 b.1)
  obtain⟨o,_,hag⟩:=one_is hT h2 rx
  have ih:=flat_eq (w':=w') hT d F q (n+1) a.2 b.2 h3 (fun f' hf'=>hn f' (List.mem_cons_of_mem _ hf')) fa' fb'
  have hnf:=hn f (List.mem_cons_self ..)
  have he:=o.eq _ _ _ w' d b.1 y ry
  simp only[Op.eqFields,ne_eq,hnf,not_false_eq_true,if_true,Sem.run_bind,part_one hT hag (h1▸hx) w',part_one hT hag (h1▸hy) w',he,Result.andThen_ok,Shs.eqb]
  cases s.eqb a.1 b.1
  ·simp
  ·simpa using ih
theorem items_eq (hT:TabOk P T) (d:Nat) {e:TypeId} {c:Nat} (hc:c=1) {ax ay:Array Value} {h':List ABlk} {g':Gh} {w0 w':World}:∀(is:List Nat) (fs:Shs) (n:Nat) (a b:fs.ty),flatF T (is.map fun i=>(i,e)) fs n=true →
  FromAt h g w fs a ax n→FromAt h' g' w0 fs b ay n→(Op.eqItems (d+1) e c ax ay is).run P w'=.ok (fs.eqb a b) w'
 | [],.nil,n,a,b,_,_,_=>by simp[Op.eqItems,Shs.eqb]
 | [],.cons s q,n,a,b,hf,_,_=>by simp[flatF] at hf
 |i::is,.nil,n,a,b,hf,_,_=>by simp[flatF] at hf
 |i::is,.cons s q,n,a,b,hf,fa,fb=>by
  simp only[List.map_cons,flatF,Bool.and_eq_true,decide_eq_true_eq] at hf
  obtain⟨⟨h1,h2⟩,h3⟩:=hf
  obtain⟨⟨x,hx,rx⟩,fa'⟩:=fa.cons (one_cell h2 a.1)
  obtain⟨⟨y,hy,ry⟩,fb'⟩:=fb.cons (one_cell h2 b.1)
  obtain⟨o,_,hag⟩:=one_is hT h2 rx
  have ih:=items_eq (w':=w') hT d hc is q (n+1) a.2 b.2 h3 fa' fb'
  have he:=o.eq _ _ _ w' d b.1 y ry
  have hi:i*c=n:=by rw[hc,Nat.mul_one]; exact h1
  simp only[Op.eqItems,hi,Sem.run_bind,part_one hT hag hx w',part_one hT hag hy w',he,Result.andThen_ok,Shs.eqb]
  cases s.eqb a.1 b.1
  ·simp
  ·simpa using ih
theorem from_rep {fs:Shs} {a:fs.ty} {arr:Array Value} (hl:(fs.cells a).length=arr.size) (hr:∀(j:Nat) c x,(fs.cells a)[j]?=some c→arr[j]?=some x→Rep h g w c x):FromAt h g w fs a arr 0:=fun j c hj=>by
 have hlt:=(List.getElem?_eq_some_iff.1 hj).1
 have hx:arr[j]?=some arr[j]:=Array.getElem?_eq_getElem (by omega)
 exact⟨_,by rw[Nat.zero_add]; exact hx,hr j c _ hj hx⟩
theorem key_eq (hT:TabOk P T) {kt:TypeId} {ks:Sh} (hk:keyB T kt ks=true) {a b:ks.ty} {x y:Value} {h':List ABlk} {g':Gh} {w0:World} (ra:Rep h g w (ks.val a) x) (rb:Rep h' g' w0 (ks.val b) y) (w':World):(Op.equal kt x y).run P w'=.ok (ks.eqb a b) w':=by
 cases ks with
 |recd fs=>
  obtain⟨ax,rfl,hlx,hrx⟩:=rep_agg (cs:=fs.cells a) ra
  obtain⟨ay,rfl,hly,hry⟩:=rep_agg (cs:=fs.cells b) rb
  have fa:=from_rep hlx hrx
  have fb:=from_rep hly hry
  simp only[keyB] at hk
  show (Op.equalIn (9998+1+1) kt _ _).run P w'=.ok (fs.eqb a b) w'
  split at hk
  ·rename_i l hu
   obtain⟨F,hF,hFl,hst,_,hnm⟩:=und_recd' hT hu
   have hfo:P.fieldsOf kt=F:=by simp[Program.fieldsOf,hF]
   rw[run_equalIn_struct w' (9998+1) kt ax ay (by rw[hfo]; exact hF) hst,hfo]
   subst hFl
   exact flat_eq hT 9998 F.toList fs 0 a b hk hnm fa fb
  ·rename_i n e hu
   simp only[Bool.and_eq_true,decide_eq_true_eq] at hk
   obtain⟨i,hi,hs,_⟩:=tab_size hT (t:=e) (by omega)
   have hcs:P.cellsOf e=1:=by rw[←hk.1,←hs]; simp[Program.cellsOf,hi]
   rw[run_equalIn_array w' (9998+1) ax ay (und_arr hT hu) hi]
   exact items_eq hT 9998 hcs (List.range n) fs 0 a b hk.2 fa fb
  ·cases hk
 |_=>cases hk
theorem flat_chk (hT:TabOk P T) (em:Bool) (n0:Nat) {ax:Array Value} (w':World):∀(F:List Field) (fs:Shs) (n:Nat) (a:fs.ty),flatF T (F.map fun f=>(f.offset,f.type)) fs n=true→FromAt h g w fs a ax n →
  (forIn (m := Sem) F PUnit.unit fun f _ => (if f.name ≠ "_" then do
   let y ←part f.type ax f.offset
   Instr.checkKey em (n0+1) f.type y
   pure (ForInStep.yield PUnit.unit)
  else pure (ForInStep.yield PUnit.unit))).run P w'=.ok PUnit.unit w'
 | [],fs,n,a,_,_=>by simp
 |f::F,.nil,n,a,hf,_=>by simp[flatF] at hf
 |f::F,.cons s q,n,a,hf,fa=>by
  simp only[List.map_cons,flatF,Bool.and_eq_true,decide_eq_true_eq] at hf
  obtain⟨⟨h1,h2⟩,h3⟩:=hf
  obtain⟨⟨x,hx,rx⟩,fa'⟩:=fa.cons (one_cell h2 a.1)
  obtain⟨o,_,hag⟩:=one_is hT h2 rx
  have ih:=flat_chk hT em n0 w' F q (n+1) a.2 h3 fa'
  have hp:=part_one hT hag (h1▸hx) w'
  have hc:=o.chk em n0 w'
  rw[List.forIn_cons]
  simp only[Sem.run_bind,Sem.run_ite,hp,hc,Result.andThen_ok,Sem.run_pure]
  split<;>simpa using ih
theorem items_chk (hT:TabOk P T) (em:Bool) (n0:Nat) {e:TypeId} {c:Nat} (hc1:c=1) {ax:Array Value} (w':World) (hz:(sizeOf e).run P w'=.ok c w'):∀(is:List Nat) (fs:Shs) (n:Nat) (a:fs.ty),flatF T (is.map fun i=>(i,e)) fs n=true→FromAt h g w fs a ax n →
  (forIn (m:=Sem) is PUnit.unit fun i _=>(do
   let z ←sizeOf e
   let y ←part e ax (i*z)
   Instr.checkKey em (n0+1) e y
   pure (ForInStep.yield PUnit.unit))).run P w'=.ok PUnit.unit w'
 | [],fs,n,a,_,_=>by simp
 |i::is,.nil,n,a,hf,_=>by simp[flatF] at hf
 |i::is,.cons s q,n,a,hf,fa=>by
  simp only[List.map_cons,flatF,Bool.and_eq_true,decide_eq_true_eq] at hf
  obtain⟨⟨h1,h2⟩,h3⟩:=hf
  obtain⟨⟨x,hx,rx⟩,fa'⟩:=fa.cons (one_cell h2 a.1)
  obtain⟨o,_,hag⟩:=one_is hT h2 rx
  have ih:=items_chk hT em n0 hc1 w' hz is q (n+1) a.2 h3 fa'
  have hi:i*c=n:=by rw[hc1,Nat.mul_one]; exact h1
  have hp:=part_one hT hag hx w'
  have hc:=o.chk em n0 w'
  rw[List.forIn_cons]
  simp only[Sem.run_bind,hz,hi,hp,hc,Result.andThen_ok,Sem.run_pure]
  simpa using ih
theorem key_check (hT:TabOk P T) {kt:TypeId} {ks:Sh} (hk:keyB T kt ks=true) {a:ks.ty} {x:Value} (ra:Rep h g w (ks.val a) x) (em:Bool) (w':World):(Instr.checkKey em 10000 kt x).run P w'=.ok () w':=by
 cases ks with
 |recd fs=>
  obtain⟨ax,rfl,hlx,hrx⟩:=rep_agg (cs:=fs.cells a) ra
  have fa:=from_rep hlx hrx
  simp only[keyB] at hk
  show (Instr.checkKey em (9998+1+1) kt _).run P w'=.ok () w'
  split at hk
  ·rename_i l hu
   obtain⟨F,hF,hFl,_,_,_⟩:=und_recd' hT hu
   subst hFl
   have:=flat_chk hT em 9998 w' F.toList fs 0 a hk fa
   rw[Instr.checkKey]
   simp only[Sem.run_bind,run_underlying hF,Result.andThen_ok]
   rw[←Array.forIn_toList]
   rw[this]; rfl
  ·rename_i n e hu
   simp only[Bool.and_eq_true,decide_eq_true_eq] at hk
   obtain⟨i,hi,hs,_⟩:=tab_size hT (t:=e) (by omega)
   have hz:(sizeOf e).run P w'=.ok 1 w':=by simp[sizeOf,typeInfo,hi,hs,hk.1]
   have:=items_chk hT em 9998 rfl w' hz (List.range n) fs 0 a hk.2 fa
   rw[Instr.checkKey]
   simp only[Sem.run_bind,run_underlying (und_arr hT hu),Result.andThen_ok,Std.Legacy.Range.forIn_eq_forIn_range',Std.Legacy.Range.size,Nat.sub_zero,Nat.add_one_sub_one,Nat.div_one,←List.range_eq_range']
   rw[this]; rfl
  ·cases hk
 |_=>cases hk
theorem shs_det (hT:TabOk P T) {ax ay:Array Value} {h':List ABlk} {g':Gh} {w0:World}:∀(l:List (Nat × TypeId)) (fs:Shs) (n:Nat) (a b:fs.ty),flatF T l fs n=true→FromAt h g w fs a ax n→FromAt h' g' w0 fs b ay n→fs.eqb a b=true →
  ∀j,n≤j→j<n+(fs.cells a).length→∃x,ax[j]?=some x∧ay[j]?=some x∧∀m,Instr.sameBits m x x=true
 |_,.nil,n,a,b,_,_,_,_,j,h1,h2=>by simp[Shs.cells] at h2; omega
 | [],.cons s q,n,a,b,hf,_,_,_,j,h1,h2=>by simp[flatF] at hf
 |(off,t)::l,.cons s q,n,a,b,hf,fa,fb,he,j,h1,h2=>by
  simp only[flatF,Bool.and_eq_true,decide_eq_true_eq] at hf
  obtain⟨⟨h3,h4⟩,h5⟩:=hf
  obtain⟨⟨x,hx,rx⟩,fa'⟩:=fa.cons (one_cell h4 a.1)
  obtain⟨⟨y,hy,ry⟩,fb'⟩:=fb.cons (one_cell h4 b.1)
  obtain⟨o,_,_⟩:=one_is hT h4 rx
  simp only[Shs.eqb,Bool.and_eq_true] at he
  by_cases hj:j=n
  ·subst hj
   have:=o.det _ _ _ _ _ ry he.1
   exact⟨x,hx,this▸hy,o.bits⟩
  ·have hl:((Shs.cons s q).cells a).length=1+(q.cells a.2).length:=by simp only[Shs.cells,one_cell h4 a.1]; simp; omega
   exact shs_det hT l q (n+1) a.2 b.2 h5 fa' fb' he.2 j (by omega) (by omega)
theorem shs_len {T:Tab}:∀(l:List (Nat × TypeId)) (fs:Shs) (n:Nat) (a b:fs.ty),flatF T l fs n=true→(fs.cells a).length=(fs.cells b).length:=fun _ fs _ a b _=>by rw[Shs.cells_size,Shs.cells_size]
theorem key_det (hT:TabOk P T) {kt:TypeId} {ks:Sh} (hk:keyB T kt ks=true) {a b:ks.ty} {x y:Value} {h':List ABlk} {g':Gh} {w0:World} (ra:Rep h g w (ks.val a) x) (rb:Rep h' g' w0 (ks.val b) y) (he:ks.eqb a b=true):x=y∧Instr.sameBits 10000 x x=true:=by
 cases ks with
 |recd fs=>
  obtain⟨ax,rfl,hlx,hrx⟩:=rep_agg (cs:=fs.cells a) ra
  obtain⟨ay,rfl,hly,hry⟩:=rep_agg (cs:=fs.cells b) rb
  have fa:=from_rep hlx hrx
  have fb:=from_rep hly hry
  obtain⟨l,hl⟩:∃l,flatF T l fs 0=true:=by
   simp only[keyB] at hk
   split at hk
   ·exact⟨_,hk⟩
   ·simp only[Bool.and_eq_true] at hk; exact⟨_,hk.2⟩
   ·cases hk
  have key:=shs_det hT l fs 0 a b hl fa fb he
  have hs:ax.size=ay.size:=by rw[←hlx,←hly]; exact shs_len l fs 0 a b hl
  have heq:ax=ay:=Array.ext hs fun j h1 h2=>by
   obtain⟨z,e1,e2,_⟩:=key j (Nat.zero_le _) (by rw[hlx]; omega)
   rw[Array.getElem?_eq_getElem h1] at e1
   rw[Array.getElem?_eq_getElem h2] at e2
   rw[Option.some.inj e1,Option.some.inj e2]
  refine⟨by rw[heq],?_⟩
  show Instr.sameBits (9999+1) (.agg ax) (.agg ax)=true
  simp only[Instr.sameBits,BEq.rfl,Bool.true_and]
  refine List.all_eq_true.2 fun p hp=>?_
  obtain⟨j,hj,e⟩:=List.getElem_of_mem hp
  rw[List.getElem_zip] at e
  have hj':j<ax.size:=by simp at hj; omega
  obtain⟨z,e1,_,hb⟩:=key j (Nat.zero_le _) (by rw[hlx]; omega)
  rw[Array.getElem?_eq_getElem hj'] at e1
  have e2:=Option.some.inj e1
  rw[←e]
  simp only[Array.getElem_toList,e2]
  exact hb 9999
 |_=>cases hk
theorem find_run (hT:TabOk P T) {kt:TypeId} {ks vs:Sh} (hk:keyB T kt ks=true) {q:ks.ty} {x:Value} (hq:Rep h g w (ks.val q) x) (w':World):∀(es:List MapEntry) (xs:List (ks.ty × vs.ty)) (i:Nat),es.length=xs.length →
  (∀(n:Nat) (p:ks.ty × vs.ty) (en:MapEntry),xs[n]?=some p→es[n]?=some en→Rep h g w (ks.val p.1) en.key∧Rep h g w (vs.val p.2) en.val) →
  (mpFind ks vs q xs=none∧(Instr.findAsking kt x es i).run P w'=.ok none w'∧∀y,mpPut ks vs q y xs=xs++[(q,y)]) ∨
  ∃(j:Nat) (en:MapEntry) (p:ks.ty × vs.ty),(Instr.findAsking kt x es i).run P w'=.ok (some (i+j,en.val)) w'∧es[j]?=some en∧xs[j]?=some p∧mpFind ks vs q xs=some p.2∧en.key=x∧Instr.sameBits 10000 x x=true∧∀y,mpPut ks vs q y xs=xs.set j (q,y)
 | [],[],i,_,_=>.inl ⟨rfl,by simp[Instr.findAsking],fun y=>rfl⟩
 | [],_::_,i,h,_=>by simp at h
 |_::_,[],i,h,_=>by simp at h
 |e::es,p::xs,i,hl,hr=>by
  obtain⟨r1,r2⟩:=hr 0 p e rfl rfl
  have heq:=key_eq hT hk hq r1 w'
  cases hb:ks.eqb q p.1
  ·rw[hb] at heq
   rcases find_run hT hk hq w' es xs (i+1) (by simpa using hl) (fun n p' en a b=>hr (n+1) p' en (by simpa using a) (by simpa using b)) with ⟨h1,h2,h3⟩|⟨j,en,p',h1,h2,h3,h4,h5,h6,h7⟩
   ·exact .inl ⟨by rw[mpFind,hb]; exact h1,by simp[Instr.findAsking,Sem.run_bind,heq,h2],fun y=>by rw[mpPut,hb,cond_false,h3 y]; rfl⟩
   ·exact .inr ⟨j+1,en,p',by simp[Instr.findAsking,Sem.run_bind,heq,h1]; omega,by simpa using h2,by simpa using h3,by rw[mpFind,hb]; exact h4,h5,h6,fun y=>by rw[mpPut,hb,cond_false,h7 y]; rfl⟩
  ·rw[hb] at heq
   obtain⟨d1,d2⟩:=key_det hT hk hq r1 hb
   exact .inr ⟨0,e,p,by simp[Instr.findAsking,Sem.run_bind,heq],rfl,rfl,by rw[mpFind,hb]; rfl,d1.symm,d2,fun y=>by rw[mpPut,hb]; rfl⟩
theorem key_wide (hT:TabOk P T) {kt:TypeId} {ks:Sh} (hk:keyB T kt ks=true):(match P.underlying kt with|some (.array _ _)|some (.struct _)=>true|_=>false)=true:=by
 cases ks with
 |recd fs=>
  simp only[keyB] at hk
  split at hk
  ·rename_i l hu
   obtain⟨F,hF,_⟩:=und_recd' hT hu
   rw[hF]
  ·rename_i n e hu
   rw[und_arr hT hu]
  ·cases hk
 |_=>cases hk
end
section
variable {P:Program} {T:Tab} {o:Oper} {a:Act} {w:World} {α:Type} {r:α} {h:List ABlk} {g:Gh}
theorem st_nil {K} (s:St K h g w):St K [] g w where
 blk:=fun i b hb=>by simp at hb
 inj:=fun i j b ⟨_,hb,_⟩=>by simp at hb
 sep:=fun i b ⟨_,hb,_⟩=>by simp at hb
 low:=s.low
 klow:=s.klow
theorem exV_rep {K} (s:St K h g w) {sh:Sh} {v:AVal} {x:Value} (hr:Rep h g w v x) {y:sh.ty} (he:exV h sh v=some y) (hn:v.named1=[]) {h':List ABlk} {g':Gh} (hM:∀b,g.M b→g'.M b):Rep h' g' w (sh.val y) x:=by
 unfold exV at he
 split at he
 ·rename_i u hu
  cases ho:okAgg u sh
  ·rw[ho] at he; cases he
  ·rw[ho,cond_true] at he
   exact sim_val (peek1_rep s hr hu hM (fun i hi=>by rw[hn] at hi; cases hi)) ho (Sh.all_spec he)
 ·cases he
theorem le_setBlk {K w'} (s:St K h g w) {i b:Nat} {ob nb:ABlk} (hi:h[i]?=some ob) (hd:ob≠.dead) (hρ:blockOf (g.ρ i)=some b)
  (hbox:∀wr cs',nb≠.box wr cs') (hrow:∀wr t e xs',nb=.row wr t e xs'→∃xs,ob=.row wr t e xs∧(0<e.size→xs'.length=xs.length))
  (hnf:nb≠.free) (hlp:∀st pend ts ps aw bo,nb≠.lp st pend ts ps aw bo) (hlb:∀cs,ob≠.box false cs) (hlr:∀t e xs,ob≠.row false t e xs)
  (hoth:∀n,n≠b→w'.heap[n]?=w.heap[n]?) (hos:w'.os=w.os) (htp:w'.tape=w.tape) (hou:w'.output=w.output) (hsz:w.heap.size≤w'.heap.size) :
  Le K h g w (h.set i nb) g w' where
 len:=by simp
 here:=fun j ⟨b0,hb,hn⟩=>here_set hi hnf j ⟨b0,hb,hn⟩
 m:=fun _ h=>h
 new:=fun _ h=>.inl h
 mw:=fun n hn=>hoth n fun e=>by subst e; exact (s.sep i n ⟨ob,hi,hd⟩ hρ).2.1 hn
 k:=fun n hn=>hoth n fun e=>by subst e; exact (s.sep i n ⟨ob,hi,hd⟩ hρ).1 hn
 box:=fun j wr cs' _ h'=>by
  rcases set_get h' with ⟨rfl,e,_⟩|⟨_,e⟩
  ·exact absurd e.symm (hbox wr cs')
  ·exact⟨wr,cs',e,rfl,rfl⟩
 row:=fun j wr t e xs' _ h'=>by
  rcases set_get h' with ⟨rfl,e,_⟩|⟨_,e⟩
  ·obtain⟨xs,h1,h2⟩:=hrow wr t _ xs' e.symm
   exact⟨wr,xs,by rw[hi,h1],h2,rfl⟩
  ·exact⟨wr,xs',e,fun _=>rfl,rfl⟩
 lp:=fun j st pend ts ps aw bo _ h'=>by
  rcases set_get h' with ⟨rfl,e,_⟩|⟨_,e⟩
  ·exact absurd e.symm (hlp st pend ts ps aw bo)
  ·exact⟨st,pend,e,rfl⟩
 lockb:=fun j cs h'=>by
  have:i≠j:=fun e=>by subst e; rw[hi] at h'; cases h'; exact hlb cs rfl
  rw[List.getElem?_set,if_neg this]; exact h'
 lockr:=fun j t e xs h'=>by
  have:i≠j:=fun e=>by subst e; rw[hi] at h'; cases h'; exact hlr _ _ _ rfl
  rw[List.getElem?_set,if_neg this]; exact h'
 os:=hos
 tape:=htp
 output:=hou
 size:=hsz
theorem look_sound {K} (hT:TabOk P T) (s:St K h g w) (t:TypeId) (m x:Operand) (ok:Bool) (ho:o.op=.lookup t m x ok) (u v:AVal) (hu:Rep h g w u (a.eval m)) (hv:Rep h g w v (a.eval x)) (k:AVal→Option α) (hk:evLook T t u v ok h k=some r) :
  ∃z zz,k z=some r∧Rep h g w z zz∧(execOp a.eval o).run P w=.ok (.value zz) w:=by
 unfold evLook at hk
 split at hk
 ·rename_i kt vt i hund
  split at hk
  ·rename_i wr t' ks vs xs hh
   split at hk
   ·rename_i hc
    split at hk
    ·rename_i q z hq hz
     split at hk
     ·rename_i y hy
      have hi:=getD_some (by simp) hh
      obtain⟨rr,es,ck,e1,e2,e3,e5,e4⟩:RowOk h g w (g.ρ i) t' (.mp ks vs) xs:=s.blk i _ hi
      have hm:a.eval m=.map (some rr):=by rw[rep_own hu hi]; exact e1
      have hq':=exV_rep s hv hq hc.2 (h':=h) (g':=g) (fun _ h=>h)
      obtain⟨z0,hz0,rz0⟩:=zero_rep (w:=w) hT (h:=[]) (g:=g) hz
      have hzn:z.named1=[]:=by
       obtain⟨_,v0,_,_,_,_,ev⟩:=tab_zero hT hz
       rw[←ev]
       have sc:∀v:Value,(ofScalar v).named0=[]∧(ofScalar v).named1=[]:=fun v=>by unfold ofScalar; split<;>exact⟨rfl,rfl⟩
       unfold ofValue
       split
       ·rename_i cs
        simp only[AVal.named1,List.flatMap_map]
        exact List.flatMap_eq_nil_iff.2 fun c _=>(sc c).1
       ·exact (sc _).2
      have ry:=exV_rep (st_nil s) rz0 hy hzn (h':=h) (g':=g) (fun _ h=>h)
      have hfind:=find_run hT hc.1 hq' w es.toList xs 0 (by rw[Array.length_toList]; exact e3) (fun n p en a b=>e4 n p en a (by simpa using b))
      have hund':=und_map hT hund
      have hchk:=key_check hT hc.1 hq' es.isEmpty w
      have hkey:(Instr.findKey kt (a.eval x) es.toList).run P w=(Instr.findAsking kt (a.eval x) es.toList).run P w:=run_findKey_eq w (key_wide hT hc.1) _ _
      have fin:∀(res:vs.ty) (b:Bool) (vv:Value),Rep h g w (vs.val res) vv→(Instr.lookup t (a.eval m) (a.eval x) ok).run P w=.ok (if ok then .tuple #[vv,.bool b] else vv) w →
        ∃zz,Rep h g w (bif ok then .tup [vs.val res,.bool b] else vs.val res) zz∧(execOp a.eval o).run P w=.ok (.value zz) w:=fun res b vv hr hrun=>by
       cases ok
       ·exact⟨vv,hr,by simp[execOp,ho,hrun]⟩
       ·refine⟨.tuple #[vv,.bool b],.tup _ _ rfl fun j c x' hc hx=>?_,by simp[execOp,ho,hrun]⟩
        rcases j with _|_|j
        ·cases hc; cases hx; exact hr
        ·cases hc; cases hx; exact .bool b
        ·cases hc
      rcases hfind with ⟨f1,f2,_⟩|⟨j,en,p,f1,f2,f3,f4,_⟩
      ·rw[f1] at hk
       obtain⟨zz,p1,p2⟩:=fin y false z0 ry (by
        unfold Instr.lookup
        simp only[Sem.run_bind,run_underlying hund',Result.andThen_ok,hm,MapKept.run_getObj_map e2,Sem.run_pure,hchk,hkey,f2,hz0])
       exact⟨_,zz,hk,p1,p2⟩
      ·rw[f4] at hk
       obtain⟨_,r2⟩:=e4 j p en f3 (by simpa using f2)
       obtain⟨zz,p1,p2⟩:=fin p.2 true en.val r2 (by
        unfold Instr.lookup
        simp only[Sem.run_bind,run_underlying hund',Result.andThen_ok,hm,MapKept.run_getObj_map e2,Sem.run_pure,hchk,hkey,f1])
       exact⟨_,zz,hk,p1,p2⟩
     ·cases hk
    ·cases hk
   ·cases hk
  ·cases hk
 ·cases hk
theorem upd_core {K} (hT:TabOk P T) (st:AS) {g:Gh} (s:St K st.heap g w) (t:TypeId) (m x y:Operand) (ho:o.op=.mapUpdate t m x y) {i:Nat} {v z:AVal} (hu:Rep st.heap g w (.own i) (a.eval m)) (hv:Rep st.heap g w v (a.eval x)) (hz:Rep st.heap g w z (a.eval y))
  (k:AS→Option α) {kt vt t':TypeId} {ks vs:Sh} {xs:List (ks.ty × vs.ty)} {q:ks.ty} {yy:vs.ty} (hund:T.und t=some (.map kt vt)) (hi:st.heap[i]?=some (.row true t' (.mp ks vs) xs)) (hc:keyB T kt ks=true∧v.named1=[]∧z.named1=[]) (hq:exV st.heap ks v=some q) (hy:exV st.heap vs z=some yy)
  (hk:k { st with heap:=st.heap.set i (.row true t' (.mp ks vs) (mpPut ks vs q yy xs)) }=some r) :
  ∃st' w',k st'=some r∧st'.tmps=st.tmps∧St K st'.heap g w'∧Le K st.heap g w st'.heap g w'∧(execOp a.eval o).run P w=.ok .skip w':=by
 obtain⟨rr,es,ck,e1,e2,e3,e5,e4⟩:RowOk st.heap g w (g.ρ i) t' (.mp ks vs) xs:=s.blk i _ hi
 have e3:es.size=xs.length:=e3
 have hm:a.eval m=.map (some rr):=by rw[rep_own hu hi]; exact e1
 have hq':=exV_rep s hv hq hc.2.1 (h':=st.heap) (g':=g) (fun _ h=>h)
 have hy':=exV_rep s hz hy hc.2.2 (h':=st.heap) (g':=g) (fun _ h=>h)
 have hfind:=find_run hT hc.1 hq' w es.toList xs 0 (by rw[Array.length_toList]; exact e3) (fun n p en a b=>e4 n p en a (by simpa using b))
 have hund':=und_map hT hund
 have hchk:=key_check hT hc.1 hq' false w
 have hkey:(Instr.findKey kt (a.eval x) es.toList).run P w=(Instr.findAsking kt (a.eval x) es.toList).run P w:=run_findKey_eq w (key_wide hT hc.1) _ _
 have hρ:blockOf (g.ρ i)=some rr:=by rw[e1]; rfl
 have ha:alive st.heap i:=⟨_,hi,by simp⟩
 have fin:∀(es':Array MapEntry) (ck':Nat),es'.size=(mpPut ks vs q yy xs).length→((∀x∈es'.toList,x.born<ck')∧(es'.toList.map (·.born)).Nodup) →
   (∀(n:Nat) (p:ks.ty × vs.ty) (en:MapEntry),(mpPut ks vs q yy xs)[n]?=some p→es'[n]?=some en→Rep st.heap g w (ks.val p.1) en.key∧Rep st.heap g w (vs.val p.2) en.val) →
   (Instr.mapUpdate t (a.eval m) (a.eval x) (a.eval y)).run P w=.ok () { w with heap:=w.heap.setIfInBounds rr (.map es' ck') } →
   ∃st' w',k st'=some r∧st'.tmps=st.tmps∧St K st'.heap g w'∧Le K st.heap g w st'.heap g w'∧(execOp a.eval o).run P w=.ok .skip w':=fun es' ck' hl hbn hr hrun=>by
  obtain⟨hs1,hs2⟩:=MapKept.heap_set (o':=.map es' ck') e2
  have l:Le K st.heap g w (st.heap.set i (.row true t' (.mp ks vs) (mpPut ks vs q yy xs))) g { w with heap:=w.heap.setIfInBounds rr (.map es' ck') }:=
   le_setBlk s hi (by simp) hρ (fun _ _ e=>by cases e) (fun wr t2 e2 xs2 e'=>by cases e'; exact⟨xs,rfl,fun h0=>absurd h0 (Nat.lt_irrefl 0)⟩) (by simp) (fun _ _ _ _ _ _ e=>by cases e) (fun cs e=>by cases e) (fun t e xs e'=>by cases e') (fun n hn=>hs2 n hn) rfl rfl rfl (by simp)
  refine⟨_,_,hk,rfl,s.turn i _ l ha (fun j n hj hja hn=>hs2 n fun e=>by subst e; exact hj (s.inj j i n hja ha hn hρ)) ?_,l,by simp[execOp,ho,hrun]⟩
  exact⟨rr,es',ck',e1,hs1,hl,hbn,fun n p en a b=>⟨(hr n p en a b).1.mono l,(hr n p en a b).2.mono l⟩⟩
 rcases hfind with ⟨f1,f2,f3⟩|⟨j,en,p,f1,f2,f3,f4,f5,f6,f7⟩
 ·refine fin (es.push { key:=a.eval x,val:=a.eval y,born:=ck }) (ck+1) (by rw[f3 yy]; simp[e3]) ⟨fun x0 hx0=>by
    rw[Array.toList_push,List.mem_append,List.mem_singleton] at hx0
    rcases hx0 with h0|rfl
    ·exact Nat.lt_succ_of_lt (e5.1 x0 h0)
    ·exact Nat.lt_succ_self _,by
    rw[Array.toList_push,List.map_append,List.nodup_append]
    refine⟨e5.2,by simp,fun b1 hb1 b2 hb2=>?_⟩
    obtain⟨x0,hx0,rfl⟩:=List.mem_map.1 hb1
    simp at hb2; subst hb2
    exact Nat.ne_of_lt (e5.1 x0 hx0)⟩ (fun n p en hp hen=>?_) ?_
  ·rw[f3 yy] at hp
   rcases Nat.lt_or_ge n xs.length with hn|hn
   ·rw[List.getElem?_append_left hn] at hp
    rw[Array.getElem?_push,if_neg (by omega)] at hen
    exact e4 n p en hp hen
   ·rw[List.getElem?_append_right hn] at hp
    have hn':n=xs.length:=by
     have:=(List.getElem?_eq_some_iff.1 hp).1
     simp at this; omega
    subst hn'
    simp at hp
    rw[Array.getElem?_push,if_pos e3.symm] at hen
    cases hp; cases hen
    exact⟨hq',hy'⟩
  ·unfold Instr.mapUpdate
   simp only[Sem.run_bind,run_underlying hund',Result.andThen_ok,hm,MapKept.run_getObj_map e2,hchk,hkey,f2,MapKept.run_setObj_map _ e2]
 ·have hjx:j<xs.length:=(List.getElem?_eq_some_iff.1 f3).1
  have hej:es[j]?=some en:=by simpa using f2
  refine fin (es.modify (0+j) fun e=>{ e with key:=a.eval x,val:=a.eval y }) ck (by rw[f7 yy]; simp[e3]) ⟨fun x0 hx0=>by
    obtain⟨n,hn,e⟩:=List.getElem_of_mem hx0
    have hn':n<es.size:=by simpa using hn
    rw[Array.getElem_toList,Array.getElem_modify] at e
    have:=e5.1 es[n] (by simp)
    rw[←e]; split<;>exact this,by
    have:(es.modify (0+j) fun e=>{ e with key:=a.eval x,val:=a.eval y }).toList.map (·.born)=es.toList.map (·.born):=by
     refine List.ext_getElem (by simp) fun n h1 h2=>?_
     simp only[List.getElem_map,Array.getElem_toList,Array.getElem_modify]
     split<;>rfl
    rw[this]; exact e5.2⟩ (fun n p' en' hp hen=>?_) ?_
  ·rw[f7 yy,List.getElem?_set] at hp
   rw[Array.getElem?_modify] at hen
   by_cases hnj:j=n
   ·subst hnj
    rw[if_pos rfl,if_pos hjx] at hp
    rw[if_pos (by omega),hej] at hen
    cases hp; cases hen
    exact⟨hq',hy'⟩
   ·rw[if_neg hnj] at hp
    rw[if_neg (by omega)] at hen
    exact e4 n p' en' hp hen
  ·have hk0:((es[0+j]?).map (·.key)).getD (a.eval x)=a.eval x:=by rw[Nat.zero_add,hej]; exact f5
   unfold Instr.mapUpdate
   simp only[Sem.run_bind,run_underlying hund',Result.andThen_ok,hm,MapKept.run_getObj_map e2,hchk,hkey,f1,hk0,Instr.keyThatStays,f6,if_true,Sem.run_pure,MapKept.run_setObj_map _ e2]
theorem upd_sound {K} (hT:TabOk P T) (st:AS) {g:Gh} (s:St K st.heap g w) (t:TypeId) (m x y:Operand) (ho:o.op=.mapUpdate t m x y) (u v z:AVal) (hu:Rep st.heap g w u (a.eval m)) (hv:Rep st.heap g w v (a.eval x)) (hz:Rep st.heap g w z (a.eval y))
  (k:AS→Option α) (hk:evUpd T t u v z st.heap (fun h=>k { st with heap:=h })=some r) :
  ∃st' w',k st'=some r∧st'.tmps=st.tmps∧St K st'.heap g w'∧Le K st.heap g w st'.heap g w'∧(execOp a.eval o).run P w=.ok .skip w':=by
 unfold evUpd at hk
 split at hk
 ·rename_i kt vt i hund
  split at hk
  ·rename_i t' ks vs xs hh
   split at hk
   ·rename_i hc
    split at hk
    ·rename_i q yy hq hy
     exact upd_core hT st s t m x y ho hu hv hz k hund (getD_some (by simp) hh) hc hq hy hk
    ·cases hk
   ·cases hk
  ·cases hk
 ·cases hk
theorem new_map {K} (s:St K h g w) (t:TypeId) (ks vs:Sh) :
  Le K h g w (h++[.row true t (.mp ks vs) []]) (g.at h.length (.map (some w.heap.size))) (w.alloc (.map #[] 0)) ∧
  St K (h++[.row true t (.mp ks vs) []]) (g.at h.length (.map (some w.heap.size))) (w.alloc (.map #[] 0)) ∧
  Rep (h++[.row true t (.mp ks vs) []]) (g.at h.length (.map (some w.heap.size))) (w.alloc (.map #[] 0)) (.own h.length) (.map (some w.heap.size)):=by
 have hb:Below w.heap.size w (w.alloc (.map #[] 0)):=(Below.refl _ _).alloc (Nat.le_refl _) _
 have l:Le K h g w (h++[.row true t (.mp ks vs) []]) (g.at h.length (.map (some w.heap.size))) (w.alloc (.map #[] 0)):=le_grow s _ _ hb
 refine⟨l,s.grow _ _ l (fun i n ai hn=>Below.heap_alloc w _ n (s.sep i n ai hn).2.2) ?_ ?_,.own _ _ (Here.of (List.getElem?_concat_length ..) (by simp)) rfl fun wr t' e' xs' hx=>(g.at_same _ _).symm⟩
 ·exact⟨w.heap.size,#[],0,g.at_same _ _,heap_alloc_new w _,rfl,⟨by simp,by simp⟩,fun n p en hp=>by simp at hp⟩
 ·intro n hn
  simp only[blockOf,Option.some.injEq] at hn
  subst hn
  exact⟨⟨fun hk=>Nat.lt_irrefl _ (s.klow _ hk),fun hm=>Nat.lt_irrefl _ (s.low _ hm),by simp⟩,fun i ai hi=>Nat.lt_irrefl _ (s.sep i _ ai hi).2.2⟩
theorem mkmap_sound {K} (st:AS) {g:Gh} (s:St K st.heap g w) (t:TypeId) (ho:o.op=.makeMap t none) (k:AVal→AS→Option α) (hk:evMkMap T t st.heap (fun v h=>k v { st with heap:=h })=some r):Good K P o a st g w k r:=by
 unfold evMkMap at hk
 split at hk
 ·split at hk
  ·rename_i ks vs _ _
   obtain⟨l,s',rp⟩:=new_map s t ks vs
   exact⟨_,_,_,_,_,hk,rfl,s',l,rp,by simp[execOp,ho,Instr.makeMap]⟩
  ·cases hk
 ·cases hk
theorem lenM_sound {K} (s:St K h g w) (b:Builtin) (hb:b=.len) (args:Array Operand) (ts:Array TypeId) (x:Operand) (t kt vt:TypeId) (ha:args.toList=[x]) (hts:ts.toList=[t])
  (ho:o.op=.call { callee:=.builtin b,args,argTypes:=ts }) (u:AVal) (n:Int) (hu:Rep h g w u (a.eval x)) (hl:evLenM h u=some n) (ht:P.underlying t=some (.map kt vt)) :
  (execOp a.eval o).run P w=.ok (.value (.int .i64 n)) w:=by
 subst hb
 obtain⟨args⟩:=args
 obtain⟨ts⟩:=ts
 simp only at ha hts
 subst ha; subst hts
 unfold evLenM at hl
 split at hl
 ·rename_i i
  split at hl
  ·rename_i wr t' ks vs xs hh
   cases hl
   have hi:=getD_some (by simp) hh
   obtain⟨rr,es,ck,e1,e2,e3,e5,e4⟩:RowOk h g w (g.ρ i) t' (.mp ks vs) xs:=s.blk i _ hi
   have hm:a.eval x=.map (some rr):=by rw[rep_own hu hi]; exact e1
   simp[execOp,ho,resolve,invoke,builtin,Builtin.len_,run_underlying ht,hm,MapKept.run_getObj_map e2,goInt,e3]
  ·cases hl
 ·cases hl
end
section
variable {ro:Option Nat} {P:Program} {T:Tab} {env:Env} {o:Oper} {a:Act} {w:World} {α:Type} {r:α} {K:Nat→Prop} {st:AS} {g:Gh} {k:AExit→AVal→AS→Option α} {next:Act→World→Prop} {Q:Exit→Act→World→Prop}
theorem getL_rep {vs:List AVal} {arr:Array Value} (hl:vs.length=arr.size) {h:List ABlk} (hr:∀(j:Nat) c x,vs[j]?=some c→arr[j]?=some x→Rep h g w c x) {ix:Nat} {v:AVal} (hv:vs[ix]?=some v) :
  ∃x,arr[ix]?=some x∧Rep h g w v x:=by
 have hlt:=(List.getElem?_eq_some_iff.1 hv).1
 have hx:arr[ix]?=some arr[ix]:=Array.getElem?_eq_getElem (by omega)
 exact⟨_,hx,hr ix v _ hv hx⟩
theorem evOp_wp (hT:TabOk P T) (hE:EnvOk P env) (s:St K st.heap g w) (htr:TRep st.heap g w st.tmps a.tmps) (dr:Bool) (hk:evOp real T env dr o st k=some r) (c:OpCont K P o a st g w k r next Q):o.wpIn (FW ro) 0 P a w next Q:=by
 unfold evOp evOpH at hk
 split at hk
 ·rename_i x ho
  exact same_wp s c hk (htr.ev x) (by simp[execOp,ho])
 ·rename_i x ho
  have hr:=htr.ev x
  have hrun:(execOp a.eval o).run P w=.ok (.value (a.eval x)) w:=by simp[execOp,ho]
  split at hk
  ·rename_i et hev hund
   rw[hev] at hr
   split at hk
   ·rename_i e hsh
    split at hk
    ·rename_i hc
     cases hnz:env.nz
     ·rw[hnz,cond_false] at hk
      obtain⟨l,s',hp⟩:=nil_row s et e hc.2.2
      refine wp_value hrun (c.on _ _ _ _ _ hk rfl s' l ?_)
      rw[rep_nils hr]; exact hp
     ·rw[hnz,cond_true] at hk
      refine wp_value hrun (c.on _ _ g w _ hk rfl s .refl ?_)
      rw[rep_nils hr]; exact .ro0 e none 0 (Nat.zero_le _) fun _=>rfl
    ·exact same_wp s c hk hr hrun
   ·exact same_wp s c hk hr hrun
  ·exact same_wp s c hk hr hrun
 ·rename_i cc x y ho
  split at hk
  ·rename_i t hev
   have hc:=htr.ev cc
   rw[hev] at hc
   have hcv:=rep_bool hc
   have hrun:(execOp a.eval o).run P w=.ok (.value (if t then a.eval x else a.eval y)) w:=by
    simp[execOp,ho,hcv,asBool]
   split at hk
   ·rename_i u v hu hv
    refine same_wp s c hk ?_ hrun
    have h1:=htr.ev x; rw[hu] at h1
    have h2:=htr.ev y; rw[hv] at h2
    cases t
    ·exact h2
    ·exact h1
   ·simp only[real] at hk
    cases t
    ·exact same_wp s c hk (htr.ev y) hrun
    ·exact same_wp s c hk (htr.ev x) hrun
  ·cases hk
 ·rename_i t ho
  split at hk
  ·rename_i z hz
   split at hk
   ·rename_i hs
    exact (alloc_sound hT st s dr t ho hz hs (fun v s=>k .normal v s) hk).wp c
   ·cases hk
  ·cases hk
 ·rename_i t x ho
  split at hk
  ·rename_i hs
   exact (box_sound st s htr (dr || !env.few) t x ho hs (fun v s=>k .normal v s) hk).wp c
  ·cases hk
 ·rename_i t parts ho
  split at hk
  ·rename_i z pl hz hpl
   split at hk
   ·cases hk
   ·rename_i hza
    split at hk
    ·rename_i cs hf
     obtain⟨v,h1,h2⟩:=build_sound (P:=P) hT st htr t parts ho hz hpl (by simpa using hza) hf
     cases hd:(dr || !env.nrw)
     ·rw[hd] at hk
      simp only[cond_false] at hk
      obtain⟨g',l,s',hl,hr⟩:=nil_rows T cs (leavesT T 8 t) st.heap g s
      cases h1 with
      |agg _ arr hlen hcells=>
       refine wp_value h2 (c.on _ _ g' w _ hk rfl s' l (.agg _ arr (by rw[hl]; exact hlen) fun j c' x hc' hx=>?_))
       have hj:j<cs.length:=by have:=(List.getElem?_eq_some_iff.1 hc').1; omega
       exact (hr j _ c' x (List.getElem?_eq_getElem hj) hc' (hcells j _ x (List.getElem?_eq_getElem hj) hx)).1
     ·rw[hd] at hk; exact same_wp s c hk h1 h2
    ·cases hk
  ·cases hk
 ·rename_i t len parts ho
  split at hk
  ·rename_i et hund
   split at hk
   ·rename_i e z hsh hz
    split at hk
    ·rename_i hc
     split at hk
     ·cases hk
     ·rename_i cs hf
      split at hk
      ·rename_i hcs
       split at hk
       ·cases hk
       ·rename_i us hp
        split at hk
        ·rename_i h' xs hkill hm
         exact (buildSlice_sound hT st s htr t et len parts ho hund e z hz hc.2 hc.1 hf hcs hp hkill hm (fun v s=>k .normal v s) hk).wp c
        ·cases hk
      ·cases hk
    ·cases hk
   ·cases hk
  ·cases hk
 ·rename_i t x ho
  split at hk
  ·rename_i cs hcs
   split at hk
   ·rename_i v hv
    obtain⟨z,h1,h2⟩:=load_sound (P:=P) hT s t x ho _ v cs (htr.ev x) hcs hv
    exact same_wp s c hk h1 h2
   ·cases hk
  ·cases hk
 ·rename_i t x y ho
  obtain⟨st',w',h1,h2,h3,h4,h5⟩:=store_sound hT st s t x y ho _ _ (htr.ev x) (htr.ev y) (fun s'=>k .normal .undef s') hk
  exact wp_skip' h5 (c.on _ st' _ w' _ h1 h2 h3 h4 .undef)
 ·rename_i x ho
  cases hl:(st.ev x).livePtr st.heap
  ·rw[hl] at hk; cases hk
  ·rw[hl] at hk
   obtain⟨b,n,hp,_⟩:=live_add s (htr.ev x) hl
   exact same_wp s c hk (htr.ev x) (by simp[execOp,ho,hp])
 ·rename_i op t x y yt ho
  obtain⟨v,z,h1,h2,h3⟩:=bin_sound hT op t yt x y ho _ _ (fun v=>k .normal v st) (htr.ev x) (htr.ev y) hk
  exact same_wp s c h1 h2 h3
 ·rename_i op t x ho
  obtain⟨v,z,h1,h2,h3⟩:=un_sound (P:=P) op t x ho _ (fun v=>k .normal v st) (htr.ev x) hk
  exact same_wp s c h1 h2 h3
 ·rename_i src dst x ho
  split at hk
  ·rename_i i n d j hx hsrc hdst
   have hr:=htr.ev x
   rw[hx] at hr
   have hv:=rep_int hr
   have hd:=und_int hT hdst
   have hsd:∃d',P.underlying src=some d':=by
    cases d with
    |int k=>exact⟨_,und_int hT hsrc⟩
    |bool=>exact⟨_,und_bool hT hsrc⟩
    |str=>exact⟨_,und_str hT hsrc⟩
    |sl e=>exact⟨_,und_sl hT hsrc⟩
    |map x y=>exact⟨_,und_map hT hsrc⟩
    |arr n e=>exact⟨_,und_arr hT hsrc⟩
    |recd l=>exact let ⟨fs,h,_⟩:=und_recd hT hsrc; ⟨_,h⟩
    |ifc=>exact let ⟨m,h⟩:=und_ifc hT hsrc; ⟨_,h⟩
    |other=>exact let ⟨d,h,_⟩:=und_other hT hsrc; ⟨_,h⟩
   obtain⟨d',hd'⟩:=hsd
   exact same_wp s c hk (.int _ _) (by simp[execOp,ho,convert,run_underlying hd',run_underlying hd,hv,Conv.intToInt])
  ·cases hk
 ·rename_i t x ho
  split at hk
  ·cases hk
  ·rename_i d hne hund
   have hsd:∃d',P.underlying t=some d'∧∀m,d'≠.interface m:=by
    cases d with
    |int k=>exact⟨_,und_int hT hund,fun m e=>by cases e⟩
    |bool=>exact⟨_,und_bool hT hund,fun m e=>by cases e⟩
    |str=>exact⟨_,und_str hT hund,fun m e=>by cases e⟩
    |sl e=>exact⟨_,und_sl hT hund,fun m e=>by cases e⟩
    |map x y=>exact⟨_,und_map hT hund,fun m e=>by cases e⟩
    |arr n e=>exact⟨_,und_arr hT hund,fun m e=>by cases e⟩
    |recd l=>exact let ⟨fs,h,_⟩:=und_recd hT hund; ⟨_,h,fun m e=>by cases e⟩
    |ifc=>exact absurd rfl hne
    |other=>exact let ⟨d,h,_,_,h5⟩:=und_other hT hund; ⟨_,h,h5⟩
   obtain⟨d',hd',hni⟩:=hsd
   refine same_wp s c hk (.ifc t _ _ (htr.ev x)) ?_
   cases d'<;>first|exact absurd rfl (hni _)|simp[execOp,ho,Instr.makeInterface,run_underlying hd']
  ·cases hk
 ·rename_i f first caps ho
  split at hk
  ·rename_i hz
   have hf:first=#[]:=Array.eq_empty_of_size_eq_zero hz
   subst hf
   refine same_wp s c hk (.fn f _ (caps.map a.eval) (by simp) fun j cc x hc hx=>ops_rep htr caps.toList j cc x hc (by simpa using hx)) ?_
   simp[execOp,ho,Instr.makeFunc]
  ·cases hk
 ·rename_i t x y ho
  exact (make_sound hT st s t x y ho _ _ (htr.ev x) (htr.ev y) (fun v s'=>k .normal v s') hk).wp c
 ·rename_i t x lo hi ho
  exact (slice_sound hT st s htr dr t x lo hi ho (fun v s'=>k .normal v s') hk).wp c
 ·rename_i t x f ho
  obtain⟨v,z,h1,h2,h3⟩:=fieldAddr_sound (P:=P) hT s t x f ho _ (fun v=>k .normal v st) (htr.ev x) hk
  exact same_wp s c h1 h2 h3
 ·rename_i t x f ho
  split at hk
  ·rename_i v hv
   obtain⟨z,h1,h2⟩:=field_sound (P:=P) hT t x f ho _ v (htr.ev x) hv
   exact same_wp s c hk h1 h2
  ·cases hk
 ·rename_i t x ix ho
  obtain⟨v,z,h1,h2,h3⟩:=indexAddr_sound (P:=P) hT s t x ix ho _ _ (fun v=>k .normal v st) (htr.ev x) (htr.ev ix) hk
  exact same_wp s c h1 h2 h3
 ·rename_i t x ix ho
  obtain⟨v,z,h1,h2,h3⟩:=index_sound (P:=P) hT t x ix ho _ _ (fun v=>k .normal v st) (htr.ev x) (htr.ev ix) hk
  exact same_wp s c h1 h2 h3
 ·rename_i x ix ho
  split at hk
  ·rename_i vs hx
   split at hk
   ·rename_i v hv
    have hr:=htr.ev x
    rw[hx] at hr
    obtain⟨arr,harr,hl,hrr⟩:∃arr,a.eval x=.tuple arr∧vs.length=arr.size∧∀(j:Nat) c x,vs[j]?=some c→arr[j]?=some x→Rep st.heap g w c x:=by
     generalize a.eval x=q at hr
     cases hr with|tup _ arr a1 a2=>exact⟨arr,rfl,a1,a2⟩
    obtain⟨z,h1,h2⟩:=getL_rep hl hrr hv
    exact same_wp s c hk h2 (by simp[execOp,ho,harr,Instr.extract,h1])
   ·cases hk
  ·cases hk
 ·rename_i t ho
  exact (mkmap_sound st s t ho (fun v s'=>k .normal v s') hk).wp c
 ·rename_i t m x ok ho
  obtain⟨v,z,h1,h2,h3⟩:=look_sound (P:=P) hT s t m x ok ho _ _ (htr.ev m) (htr.ev x) (fun v=>k .normal v st) hk
  exact same_wp s c h1 h2 h3
 ·rename_i t m x y ho
  obtain⟨st',w',h1,h2,h3,h4,h5⟩:=upd_sound (P:=P) hT st s t m x y ho _ _ _ (htr.ev m) (htr.ev x) (htr.ev y) (fun s=>k .normal .undef s) hk
  exact wp_skip' h5 (c.on _ _ _ _ _ h1 h2 h3 h4 .undef)
 ·rename_i args ts ho
  split at hk
  ·rename_i x t hargs hts
   split at hk
   ·rename_i hund
    split at hk
    ·rename_i n hlen
     exact same_wp s c hk (.int _ _) (lenM_sound s .len rfl args ts x t _ _ hargs hts ho _ n (htr.ev x) hlen (und_map hT hund))
    ·cases hk
   ·rename_i e n hund hlen
    split at hk
    ·cases hk
    ·rename_i hne
     exact same_wp s c hk (.int _ _) (len_sound s .len rfl args ts x t hargs hts ho _ n (htr.ev x) hlen (.inl ⟨_,und_sl hT hund,fun q hq=>hne q hq⟩))
   ·rename_i n hund hlen
    split at hk
    ·rename_i q hq
     exact same_wp s c hk (.int _ _) (len_sound s .len rfl args ts x t hargs hts ho _ n (htr.ev x) hlen (.inr ⟨und_str hT hund,_,hq⟩))
    ·cases hk
   ·cases hk
  ·cases hk
 ·rename_i args ts ho
  split at hk
  ·rename_i j x l hargs
   split at hk
   ·rename_i n hn
    exact same_wp s c hk (.int _ _) (min_sound htr .min rfl args ts ho j x n l hargs hn)
   ·cases hk
  ·cases hk
 ·rename_i args ts ho
  split at hk
  ·rename_i j x l hargs
   split at hk
   ·rename_i n hn
    exact same_wp s c hk (.int _ _) (max_sound htr .max rfl args ts ho j x n l hargs hn)
   ·cases hk
  ·cases hk
 ·rename_i args ts ho
  split at hk
  ·rename_i x y t u hargs hts
   split at hk
   ·rename_i htu
    subst htu
    exact (append_sound hT st s .append rfl t args ts x y hargs hts ho _ _ (htr.ev x) (htr.ev y) (fun v s'=>k .normal v s') hk).wp c
   ·cases hk
  ·cases hk
 ·rename_i f args ts ho
  split at hk
  ·rename_i fid caps hf
   exact call_wp hE s htr dr f args ts ho fid caps hf hk c
  ·rename_i i hf
   cases hd:(dr&&!env.few)
   ·rw[hd] at hk; exact yld_wp hE s htr f args ts ho _ hf hk c
   ·rw[hd] at hk; cases hk
  ·cases hk
 ·rename_i x ho
  split at hk
  ·rename_i t v hx
   cases dr
   ·have hr:=htr.ev x
    rw[hx] at hr
    obtain⟨y,hy,hry⟩:∃y,a.eval x=.iface t y∧Rep st.heap g w v y:=by
     generalize a.eval x=q at hr
     cases hr with|ifc _ _ y h=>exact⟨y,rfl,h⟩
    have hrun:(execOp a.eval o).run P w=.halt (.panic (.iface t y)) w:=by simp[execOp,ho,Instr.panic,hy]
    refine⟨fun _ _=>trivial,?_⟩
    rw[semAt_of hrun (fun d w' e=>by cases e) (fun d c w' hd _=>by rw[ho] at hd; cases hd),Oper.uponIn_panic]
    exact c.pan _ _ st g w _ hk rfl s .refl (.ifc t v y hry)
   ·cases hk
  ·cases hk
 ·cases hk
end
def XR (h:List ABlk) (g:Gh) (w:World):AExit→Exit→Prop
 |.normal,.normal=>True
 |.exit i,.exit j=>i=j
 |.ret,.ret=>True
 |.pan v,.panic c=>∃u,c=[{ v:=u,recovered:=false }]∧Rep h g w v u
 |_,_=>False
structure CCont {α:Type} (K:Nat→Prop) (h0:List ABlk) (g0:Gh) (w0:World) (ds:List Deferred) (k:AExit→AS→Option α) (r:α) (Q:Exit→Act→World→Prop):Prop where
 on:∀x (st':AS) g' (a':Act) w' e,k x st'=some r→St K st'.heap g' w'→Le K h0 g0 w0 st'.heap g' w'→TRep st'.heap g' w' st'.tmps a'.tmps→a'.defers=ds→XR st'.heap g' w' x e→Q e a' w'
theorem put_defers (a:Act) (dst:Option Tmp) (v:Value):(a.put dst v).defers=a.defers:=by cases dst<;>rfl
theorem put_heap (s:AS) (dst:Option Nat) (v:AVal):(s.put dst v).heap=s.heap:=by cases dst<;>rfl
theorem TRep.lit {h g w} {ts:List AVal} {tmps:Array Value} (t:TRep h g w ts tmps) {d:Nat} {v:AVal} (hd:ts.getD d .any=v) (hv:v≠.any) {u:AVal} (hu:∀x,Rep h g w v x→Rep h g w u x):TRep h g w (ts.set d u) tmps:=by
 refine⟨by simpa using t.1,fun j c x hc hx=>?_⟩
 rw[List.getElem?_set] at hc
 split at hc
 ·rename_i e
  subst e
  split at hc
  ·rename_i hlt
   cases hc
   refine hu x (t.2 d v x ?_ hx)
   rw[List.getD_eq_getElem?_getD,List.getElem?_eq_getElem hlt] at hd
   rw[List.getElem?_eq_getElem hlt]; simpa using hd
  ·cases hc
 ·exact t.2 j c x hc hx
section
variable {ro:Option Nat} {P:Program} {T:Tab} {env:Env} {α:Type} {r:α} {K:Nat→Prop} {Q:Exit→Act→World→Prop} {ops:Array Oper}
theorem yielded_some {a:Act} {j d:Nat} (hd:(ops[j]?).bind (·.dst)=some d):yielded ops a.tmps j=match a.tmps.getD d Go.undef with
  |.bool b=>some b
  |_=>none:=by
 unfold yielded
 rw[hd,Option.bind_some]
 have e:a.tmps.getD d Go.undef=(a.tmps[d]?).getD Go.undef:=by simp[Array.getD_eq_getD_getElem?]
 rw[e]
 cases a.tmps[d]? with
 |none=>rfl
 |some v=>cases v<;>rfl
theorem evOps_wp (hT:TabOk P T) (hE:EnvOk P env) (dr:Bool) (k:AExit→AS→Option α) (h0:List ABlk) (g0:Gh) (w0:World) (ds:List Deferred) (c:CCont K h0 g0 w0 ds k r Q) :
  ∀(rest:List Oper) (i:Nat) (st:AS) (a:Act) (w:World) (g:Gh),ops.toList.drop i=rest→evOps real T env dr ops rest st k=some r→St K st.heap g w→Le K h0 g0 w0 st.heap g w→TRep st.heap g w st.tmps a.tmps→a.defers=ds →
   wpOpsIn (FW ro) 0 P ops Q (List.range' i rest.length) a w
 | [],i,st,a,w,g,_,hk,s,l,t,hd=>by
   simp only[evOps] at hk
   exact c.on .normal st g a w .normal hk s l t hd trivial
 |o::rest,i,st,a,w,g,hdr,hk,s,l,t,hd=>by
  have hio:ops[i]?=some o:=by
   have:(ops.toList.drop i)[0]?=some o:=by rw[hdr]; rfl
   rw[List.getElem?_drop] at this; simpa using this
  have hnext:ops.toList.drop (i+1)=rest:=by
   rw[←List.drop_drop,hdr]; rfl
  rw[List.length_cons,List.range'_succ]
  simp only[wpOpsIn,hio]
  -- the operation is carried out
  have hgo:∀st1:AS,st1.heap=st.heap→TRep st1.heap g w st1.tmps a.tmps→(evOp real T env dr o st1 fun x v s'=>
    match x with
    |.normal=>evOps real T env dr ops rest (s'.put o.dst v) k
    |x=>bif dr then none else k x s')=some r→o.wpIn (FW ro) 0 P a w (wpOpsIn (FW ro) 0 P ops Q (List.range' (i+1) rest.length)) Q:=by
   intro st1 hh t1 hk1
   refine evOp_wp (K:=K) (g:=g) hT hE (by rw[hh]; exact s) t1 dr hk1 ⟨fun v st' g' w' x hkv htm s' l' hr=>?_,fun v u st' g' w' x hkv htm s' l' hr=>?_⟩
   ·simp only at hkv
    refine evOps_wp hT hE dr k h0 g0 w0 ds c rest (i+1) _ (a.put o.dst x) w' g' hnext hkv (by rw[put_heap]; exact s') (by rw[put_heap]; rw[hh] at l'; exact l.trans l') ?_ (by rw[put_defers]; exact hd)
    rw[put_heap]
    have:TRep st'.heap g' w' st'.tmps a.tmps:=by rw[htm]; exact t1.mono l'
    exact this.put o.dst hr
   ·simp only at hkv
    replace hkv:k (.pan v) st'=some r:=by
     cases dr
     ·exact hkv
     ·cases hkv
    refine c.on (.pan v) st' g' a w' _ hkv s' (by rw[hh] at l'; exact l.trans l') (by rw[htm]; exact t1.mono l') hd ⟨x,rfl,hr⟩
  -- the operation is passed over
  have hskip:∀st1:AS,st1.heap=st.heap→TRep st1.heap g w st1.tmps a.tmps→evOps real T env dr ops rest (st1.put o.dst .undef) k=some r→wpOpsIn (FW ro) 0 P ops Q (List.range' (i+1) rest.length) (a.put o.dst Go.undef) w:=by
   intro st1 hh t1 hk1
   refine evOps_wp hT hE dr k h0 g0 w0 ds c rest (i+1) _ _ w g hnext hk1 (by rw[put_heap,hh]; exact s) (by rw[put_heap,hh]; exact l) ?_ (by rw[put_defers]; exact hd)
   rw[put_heap]
   exact t1.put o.dst .undef
  simp only[evOps] at hk
  split at hk
  ·rename_i hg
   rw[if_pos (by simp[Region.wanted,hg])]
   exact (hgo st rfl t hk)
  ·rename_i j want hg
   split at hk
   ·cases hk
   ·rename_i d hdd
    have hy:=yielded_some (a:=a) hdd
    have htg:=t.get d
    split at hk
    ·rename_i b hb
     have hb':st.tmps.getD d .any=.bool b:=hb
     rw[hb'] at htg
     rw[rep_bool htg] at hy
     simp only at hy
     have hlit:TRep st.heap g w (st.tmps.set d (.bool b)) a.tmps:=t.lit hb' (by simp) fun x h=>h
     simp only[real] at hk
     cases b
     ·simp only[cond_false] at hk
      cases want
      ·rw[if_pos (by simp[Region.wanted,hg,hy])]
       exact (hgo (st.put (some d) (.bool false)) rfl hlit hk)
      ·rw[if_neg (by simp[Region.wanted,hg,hy])]
       exact⟨fun _ _=>trivial,hskip (st.put (some d) (.bool false)) rfl hlit hk⟩
     ·simp only[cond_true] at hk
      cases want
      ·rw[if_neg (by simp[Region.wanted,hg,hy])]
       exact⟨fun _ _=>trivial,hskip (st.put (some d) (.bool true)) rfl hlit hk⟩
      ·rw[if_pos (by simp[Region.wanted,hg,hy])]
       exact (hgo (st.put (some d) (.bool true)) rfl hlit hk)
    ·rename_i hb
     have hb':st.tmps.getD d .any=.undef:=hb
     rw[hb'] at htg
     have hu:a.tmps.getD d Go.undef=Go.undef:=by generalize a.tmps.getD d Go.undef=q at htg; cases htg; rfl
     rw[hu] at hy
     rw[if_neg (by simp[Region.wanted,hg,hy,Go.undef])]
     exact⟨fun _ _=>trivial,hskip st rfl t hk⟩
    ·cases hk
theorem region_wp (hT:TabOk P T) (hE:EnvOk P env) (id:Nat) (k:AExit→AS→Option α) (h0:List ABlk) (g0:Gh) (w0:World) (ds:List Deferred) (c:CCont K h0 g0 w0 ds k r Q) (st:AS) (a:Act) (w:World) (g:Gh)
  (hk:evOps real T env false ops ops.toList st k=some r) (s:St K st.heap g w) (l:Le K h0 g0 w0 st.heap g w) (t:TRep st.heap g w st.tmps a.tmps) (hd:a.defers=ds):(Code.region id ops false).wpIn (FW ro) 0 P Q a w:=by
 refine wpIn_region ?_
 have:=evOps_wp (ro:=ro) hT hE false k h0 g0 w0 ds c ops.toList 0 st a w g rfl hk s l t hd
 rw[List.range_eq_range']
 simpa using this
end
end Go.Proofs.YtpgfncncgjihpaaGreat
namespace Go.Proofs.YtpgfncncgjihpaaGreat
section
variable {P:Program} {T:Tab} {env:Env} {α:Type}
theorem bif_bind {α β:Type} (b:Bool) (x y:Option α) (k:α→Option β):(bif b then x else y).bind k=bif b then x.bind k else y.bind k:=by cases b<;>rfl
theorem ite_bind' {α β:Type} (p:Prop) [Decidable p] (x y:Option α) (k:α→Option β):(if p then x else y).bind k=if p then x.bind k else y.bind k:=by split<;>rfl
theorem real_iff' {α:Type} (p:Prop) (d:Decidable p) (x y:Option α):real.iff p d x y=if p then x else y:=rfl
theorem evBin_nat (op:BinOp) (t:TypeId) (x y:AVal) (k:AVal→Option α):evBin real T op t x y k=(evBin real T op t x y some).bind k:=by
 unfold evBin real
 split
 ·cases op<;>simp only[ite_bind',Option.bind_some,Option.bind_none]
 ·split
  ·cases op<;>simp only[Option.bind_some,Option.bind_none]
  ·rfl
 ·split
  ·cases op<;>simp only[Option.bind_some,Option.bind_none]
  ·rfl
 ·split
  ·split<;>rfl
  ·split<;>rfl
  ·rfl
 ·split
  ·split<;>simp only[ite_bind',Option.bind_some,Option.bind_none]
  ·rfl
 ·split
  ·split<;>rfl
  ·rfl
 ·rfl
theorem byIdx_nat (n:Int) {β:Type} (f:Nat→Option α) (k:α→Option β):∀(m i:Nat),byIdx real n (fun q=>(f q).bind k) m i=(byIdx real n f m i).bind k
 |0,i=>rfl
 |m+1,i=>by rw[byIdx_real,byIdx_real,bif_bind,byIdx_nat n f k m (i+1)]
theorem evUn_nat (op:UnOp) (x:AVal) (k:AVal→Option α):evUn op x k=(evUn op x some).bind k:=by
 unfold evUn
 split<;>rfl
theorem evStore_nat (t:TypeId) (a v:AVal) (h:List ABlk) (k:List ABlk→Option α):evStore T t a v h k=(evStore T t a v h some).bind k:=by
 unfold evStore
 split
 ·split
  ·split
   ·split
    ·simp only[ite_bind',Option.bind_some,Option.bind_none]
    ·rfl
   ·split
    ·split
     ·split<;>rfl
     ·rfl
    ·rfl
   ·rfl
  ·rfl
 ·rfl
theorem evAppend_nat (t:TypeId) (x y:AVal) (h:List ABlk) (k:AVal→List ABlk→Option α):evAppend real T t x y h k=(evAppend real T t x y h fun v h=>some (v,h)).bind fun p=>k p.1 p.2:=by
 unfold evAppend real
 split
 ·split
  ·rfl
  ·split
   ·rfl
   ·split
    ·split
     ·rfl
     ·split
      ·rfl
      ·split
       ·simp only[ite_bind',Option.bind_some,Option.bind_none]
       ·rfl
    ·rfl
 ·rfl
theorem evMake_nat (t:TypeId) (x y:AVal) (h:List ABlk) (k:AVal→List ABlk→Option α):evMake real T t x y h k=(evMake real T t x y h fun v h=>some (v,h)).bind fun p=>k p.1 p.2:=by
 unfold evMake real
 split
 ·split
  ·split
   ·split
    ·simp only[ite_bind',Option.bind_some,Option.bind_none]
    ·rfl
   ·rfl
  ·rfl
 ·rfl
theorem evCut_nat (et:TypeId) (lo hi:Option AVal) (e:Sh) (xs:List e.ty) (h:List ABlk) (k:AVal→List ABlk→Option α):evCut real T et lo hi e xs h k=(evCut real T et lo hi e xs h fun v h=>some (v,h)).bind fun p=>k p.1 p.2:=by
 unfold evCut real
 split
 ·split<;>simp only[ite_bind',Option.bind_some,Option.bind_none]
 ·rfl
theorem evSlice_nat (dr:Bool) (t:TypeId) (x:AVal) (lo hi:Option AVal) (h:List ABlk) (k:AVal→List ABlk→Option α):evSlice real T dr t x lo hi h k=(evSlice real T dr t x lo hi h fun v h=>some (v,h)).bind fun p=>k p.1 p.2:=by
 unfold evSlice
 split
 ·split
  ·exact evCut_nat ..
  ·split
   ·cases dr
    ·exact evCut_nat ..
    ·rfl
   ·rfl
  ·rfl
 ·rfl
theorem evIndexAddr_nat (t:TypeId) (x y:AVal) (h:List ABlk) (k:AVal→Option α):evIndexAddr real T t x y h k=(evIndexAddr real T t x y h some).bind k:=by
 unfold evIndexAddr
 split
 ·split
  ·split
   ·simp only[real_iff',ite_bind',Option.bind_some,Option.bind_none]
   ·split
    ·simp only[real_iff',ite_bind',Option.bind_some,Option.bind_none]
    ·rfl
   ·rfl
  ·simp only[real_iff',ite_bind',bif_bind,Option.bind_none]
   split
   ·cases x<;>first|rfl|simp only[←byIdx_nat,Option.bind_some,Option.bind_none]
   ·rfl
  ·rfl
 ·rfl
theorem evLook_nat (t:TypeId) (x y:AVal) (ok:Bool) (h:List ABlk) (k:AVal→Option α):evLook T t x y ok h k=(evLook T t x y ok h some).bind k:=by
 unfold evLook
 split
 ·split
  ·split
   ·split
    ·split<;>rfl
    ·rfl
   ·rfl
  ·rfl
 ·rfl
theorem evUpd_nat (t:TypeId) (x y z:AVal) (h:List ABlk) (k:List ABlk→Option α):evUpd T t x y z h k=(evUpd T t x y z h some).bind k:=by
 unfold evUpd
 split
 ·split
  ·split
   ·split<;>rfl
   ·rfl
  ·rfl
 ·rfl
theorem evMkMap_nat (t:TypeId) (h:List ABlk) (k:AVal→List ABlk→Option α):evMkMap T t h k=(evMkMap T t h fun v h=>some (v,h)).bind fun p=>k p.1 p.2:=by
 unfold evMkMap
 split
 ·split<;>rfl
 ·rfl
theorem evIndexV_nat (t:TypeId) (x y:AVal) (k:AVal→Option α):evIndexV real T t x y k=(evIndexV real T t x y some).bind k:=by
 unfold evIndexV
 split
 ·split
  ·split
   ·split
    ·simp only[real_iff',ite_bind',Option.bind_some,Option.bind_none]
    ·rfl
   ·rfl
  ·rfl
 ·rfl
theorem evFieldAddr_nat (t:TypeId) (x:AVal) (f:Nat) (h:List ABlk) (k:AVal→Option α):evFieldAddr T t x f h k=(evFieldAddr T t x f h some).bind k:=by
 unfold evFieldAddr
 split
 ·split
  ·split
   ·rfl
   ·simp only[bif_bind,Option.bind_none]
    cases x<;>rfl
  ·rfl
 ·rfl
theorem evCall_nat (hE:EnvOk P env) (dr:Bool) (f:FuncId) (caps args:List AVal) (h:List ABlk) (k:AExit→AVal→List ABlk→Option α) :
  evCall env dr f caps args h k=(evCall env dr f caps args h fun x v h=>some (x,v,h)).bind fun p=>k p.1 p.2.1 p.2.2:=by
 unfold evCall
 split
 ·cases dr&&!env.few
  ·exact hE.cv.nat ..
  ·rfl
 ·rename_i S hS
  cases !dr&&env.inn f
  ·exact evPure_nat (hE.fs f S hS) ..
  ·exact hE.cv.nat ..
theorem evOpH_nat (hE:EnvOk P env) (dr:Bool) (op:Op) (ty:TypeId) (ρ:Operand→AVal) (h:List ABlk) (k:AExit→AVal→List ABlk→Option α) :
  evOpH real T env dr op ty ρ h k=(evOpH real T env dr op ty ρ h fun x v h=>some (x,v,h)).bind fun p=>k p.1 p.2.1 p.2.2:=by
 unfold evOpH
 split
 ·rfl
 ·split
  ·split
   ·split
    ·cases env.nz<;>rfl
    ·rfl
   ·rfl
  ·rfl
 ·split
  ·split
   ·rfl
   ·simp only[real,bif_bind,Option.bind_some]
  ·rfl
 ·split
  ·split
   ·cases dr<;>rfl
   ·rfl
  ·rfl
 ·simp only[ite_bind',bif_bind,Option.bind_some,Option.bind_none]
 ·split
  ·split
   ·rfl
   ·split
    ·cases (dr || !env.nrw)<;>rfl
    ·rfl
  ·rfl
 ·split
  ·split
   ·split
    ·split
     ·rfl
     ·split
      ·split
       ·rfl
       ·split<;>rfl
      ·rfl
    ·rfl
   ·rfl
  ·rfl
 ·split
  ·split<;>rfl
  ·rfl
 ·rw[evStore_nat,evStore_nat (k:=fun h'=>some (AExit.normal,AVal.undef,h'))]
  cases evStore T _ _ _ h some<;>rfl
 ·simp only[bif_bind,Option.bind_some,Option.bind_none]
 ·rw[evBin_nat,evBin_nat (k:=fun v=>some (AExit.normal,v,h))]
  cases evBin real T _ _ _ _ some<;>rfl
 ·rw[evUn_nat,evUn_nat (k:=fun v=>some (AExit.normal,v,h))]
  cases evUn _ _ some<;>rfl
 ·split<;>rfl
 ·split<;>rfl
 ·split<;>rfl
 ·rw[evMake_nat,evMake_nat (k:=fun v h'=>some (AExit.normal,v,h'))]
  cases evMake real T _ _ _ h _<;>rfl
 ·rw[evSlice_nat,evSlice_nat (k:=fun v h'=>some (AExit.normal,v,h'))]
  cases evSlice real T dr _ _ _ _ h _<;>rfl
 ·rw[evFieldAddr_nat,evFieldAddr_nat (k:=fun v=>some (AExit.normal,v,h))]
  cases evFieldAddr T _ _ _ _ some<;>rfl
 ·split<;>rfl
 ·rw[evIndexAddr_nat,evIndexAddr_nat (k:=fun v=>some (AExit.normal,v,h))]
  cases evIndexAddr real T _ _ _ _ some<;>rfl
 ·rw[evIndexV_nat,evIndexV_nat (k:=fun v=>some (AExit.normal,v,h))]
  cases evIndexV real T _ _ _ some<;>rfl
 ·split
  ·split<;>rfl
  ·rfl
 ·rw[evMkMap_nat,evMkMap_nat (k:=fun v h'=>some (AExit.normal,v,h'))]
  cases evMkMap T _ h _<;>rfl
 ·rw[evLook_nat,evLook_nat (k:=fun v=>some (AExit.normal,v,h))]
  cases evLook T _ _ _ _ h some<;>rfl
 ·rw[evUpd_nat,evUpd_nat (k:=fun h'=>some (AExit.normal,AVal.undef,h'))]
  cases evUpd T _ _ _ _ h some<;>rfl
 ·split
  ·split
   ·split<;>rfl
   ·split<;>rfl
   ·split<;>rfl
   ·rfl
  ·rfl
 ·split
  ·split<;>rfl
  ·rfl
 ·split
  ·split<;>rfl
  ·rfl
 ·split
  ·split
   ·rw[evAppend_nat,evAppend_nat (k:=fun v h'=>some (AExit.normal,v,h'))]
    cases evAppend real T _ _ _ h _<;>rfl
   ·rfl
  ·rfl
 ·split
  ·exact evCall_nat hE ..
  ·cases dr&&!env.few
   ·exact hE.cv.nat ..
   ·rfl
  ·rfl
 ·split
  ·simp only[bif_bind,Option.bind_some,Option.bind_none]
  ·rfl
 ·rfl
end
open Go.RowKit
section
variable {P:Program} {T:Tab} {env:Env} {α:Type} {ops:Array Oper}
theorem put_same {s:AS} {d:Nat} {v:AVal} (h:s.get d=v) (hv:v≠.any):s.put (some d) v=s:=by
 obtain⟨ts,h'⟩:=s
 simp only[AS.put,AS.get] at *
 congr 1
 rw[List.getD_eq_getElem?_getD] at h
 apply List.ext_getElem?
 intro j
 rw[List.getElem?_set]
 split
 ·rename_i e
  subst e
  split
  ·rename_i hl
   rw[List.getElem?_eq_getElem hl] at h ⊢
   simp at h; rw[h]
  ·rename_i hl
   rw[List.getElem?_eq_none (by omega)]
 ·rfl
theorem evOpH_congr (dr:Bool) (op:Op) (ty:TypeId) (ρ ρ':Operand→AVal) (h:List ABlk) (k:AExit→AVal→List ABlk→Option α) (he:∀x∈op.operands.toList,ρ' x=ρ x) :
  evOpH real T env dr op ty ρ' h k=evOpH real T env dr op ty ρ h k:=by
 have hl:∀(l:List Operand),(∀x∈l,ρ' x=ρ x)→l.map ρ'=l.map ρ:=fun l hl=>List.map_congr_left hl
 cases op
 case move x=>simp only[evOpH,he x (by simp[Op.operands])]
 case assign x=>simp only[evOpH,he x (by simp[Op.operands])]
 case pick c x y=>simp only[evOpH,he c (by simp[Op.operands]),he x (by simp[Op.operands]),he y (by simp[Op.operands])]
 case box t x=>simp only[evOpH,he x (by simp[Op.operands])]
 case build t parts=>
  have:parts.toList.map (fun p=>(p.1,ρ' p.2))=parts.toList.map (fun p=>(p.1,ρ p.2)):=List.map_congr_left fun p hp=>by rw[he p.2 (by simp[Op.operands]; exact⟨p.1,by simpa using hp⟩)]
  simp only[evOpH,this]
 case buildSlice t n parts=>
  have:parts.toList.map (fun p=>(p.1,ρ' p.2))=parts.toList.map (fun p=>(p.1,ρ p.2)):=List.map_congr_left fun p hp=>by rw[he p.2 (by simp[Op.operands]; exact⟨p.1,by simpa using hp⟩)]
  simp only[evOpH,this]
 case load t x=>simp only[evOpH,he x (by simp[Op.operands])]
 case store t x y=>simp only[evOpH,he x (by simp[Op.operands]),he y (by simp[Op.operands])]
 case nilCheck x=>simp only[evOpH,he x (by simp[Op.operands])]
 case binOp o t x y yt=>simp only[evOpH,he x (by simp[Op.operands]),he y (by simp[Op.operands])]
 case unOp o t x=>simp only[evOpH,he x (by simp[Op.operands])]
 case convert s d x=>simp only[evOpH,he x (by simp[Op.operands])]
 case makeInterface t x=>simp only[evOpH,he x (by simp[Op.operands])]
 case makeFunc f first caps=>
  cases f with
  |func f=>simp only[evOpH,hl caps.toList fun x hx=>he x (by simp[Op.operands]; exact .inr (by simpa using hx))]
  |_=>rfl
 case makeSlice t x y=>simp only[evOpH,he x (by simp[Op.operands]),he y (by simp[Op.operands])]
 case slice t x lo hi mx=>
  cases mx with
  |some m=>rfl
  |none=>
   have h1:lo.map ρ'=lo.map ρ:=by cases lo with
    |none=>rfl
    |some y=>simp[he y (by simp[Op.operands])]
   have h2:hi.map ρ'=hi.map ρ:=by cases hi with
    |none=>rfl
    |some y=>simp[he y (by simp[Op.operands])]
   simp only[evOpH,he x (by simp[Op.operands]),h1,h2]
 case fieldAddr t x f=>simp only[evOpH,he x (by simp[Op.operands])]
 case field t x f=>simp only[evOpH,he x (by simp[Op.operands])]
 case indexAddr t x ix=>simp only[evOpH,he x (by simp[Op.operands]),he ix (by simp[Op.operands])]
 case index t x ix=>simp only[evOpH,he x (by simp[Op.operands]),he ix (by simp[Op.operands])]
 case extract x ix=>simp only[evOpH,he x (by simp[Op.operands])]
 case makeMap t r=>cases r<;>rfl
 case lookup t m x ok=>simp only[evOpH,he m (by simp[Op.operands]),he x (by simp[Op.operands])]
 case mapUpdate t m x y=>simp only[evOpH,he m (by simp[Op.operands]),he x (by simp[Op.operands]),he y (by simp[Op.operands])]
 case panic x=>simp only[evOpH,he x (by simp[Op.operands])]
 case call c=>
  obtain⟨callee,args,ts⟩:=c
  cases callee with
  |value f=>
   have hf:=he f (by simp[Op.operands,Call.operands])
   have ha:=hl args.toList fun x hx=>he x (by simp[Op.operands,Call.operands]; exact .inr (by simpa using hx))
   simp only[evOpH,hf,ha]
  |invoke x m=>rfl
  |builtin b=>
   have ha:∀x∈args.toList,ρ' x=ρ x:=fun x hx=>he x (by simp[Op.operands,Call.operands]; simpa using hx)
   have hm:=hl args.toList ha
   cases b
   case len=>
    simp only[evOpH]
    split
    ·rename_i x t h1 h2
     rw[ha x (by rw[h1]; simp)]
    ·rfl
   case min=>simp only[evOpH,hm]
   case max=>simp only[evOpH,hm]
   case append=>
    simp only[evOpH]
    split
    ·rename_i x y t u h1 h2
     rw[ha x (by rw[h1]; simp),ha y (by rw[h1]; simp)]
    ·rfl
   all_goals rfl
 all_goals rfl
theorem ev_same {s s':AS} {o:Oper} (h:∀d∈o.looksAt ops,s'.get d=s.get d):∀x∈o.op.operands.toList,s'.ev x=s.ev x:=by
 intro x hx
 cases x with
 |tmp t=>exact h t (by simp only[Oper.looksAt,List.mem_append,List.mem_filterMap]; exact .inl ⟨.tmp t,hx,rfl⟩)
 |_=>rfl
theorem killAll_nil (h:List ABlk):killAll h (dedup [])=some h:=rfl
theorem evOpH_heap {op:Op} {ty:TypeId} {ρ:Operand→AVal} {h h':List ABlk} {x:AExit} {v:AVal} (hE:EnvOk P env) (hne:opE op=false) (hcl:∀f args ts,op=.call { callee:=.value f,args,argTypes:=ts }→∃g caps,ρ f=.fn g caps∧(env.fs g).isSome=true) (hk:evOpH real T env true op ty ρ h (fun x v h=>some (x,v,h))=some (x,v,h')):h'=h:=by
 cases op
 case alloc=>cases hne
 case box=>cases hne
 case buildSlice=>cases hne
 case makeSlice=>cases hne
 case store=>cases hne
 case move x=>simp only[evOpH] at hk; cases hk; rfl
 case assign x=>
  simp only[evOpH] at hk
  split at hk
  ·split at hk
   ·rw[if_neg (by simp)] at hk; cases hk; rfl
   ·cases hk; rfl
  ·cases hk; rfl
 case pick c x y=>
  simp only[evOpH] at hk
  split at hk
  ·rename_i t _
   split at hk
   ·cases hk; rfl
   ·simp only[real] at hk
    cases t<;>(cases hk; rfl)
  ·cases hk
 case build t parts=>
  simp only[evOpH] at hk
  split at hk
  ·split at hk
   ·cases hk
   ·split at hk
    ·simp only[Bool.true_or,cond_true] at hk; cases hk; rfl
    ·cases hk
  ·cases hk
 case load t x=>
  simp only[evOpH] at hk
  split at hk
  ·split at hk
   ·cases hk; rfl
   ·cases hk
  ·cases hk
 case nilCheck x=>
  simp only[evOpH] at hk
  cases hl:(ρ x).livePtr h<;>rw[hl] at hk<;>cases hk
  rfl
 case binOp o t x y yt=>
  simp only[evOpH] at hk
  rw[evBin_nat] at hk
  cases hb:evBin real T o t (ρ x) (ρ y) some<;>rw[hb] at hk<;>cases hk
  rfl
 case unOp o t x=>
  simp only[evOpH] at hk
  rw[evUn_nat] at hk
  cases hb:evUn o (ρ x) some<;>rw[hb] at hk<;>cases hk
  rfl
 case convert a b x=>
  simp only[evOpH] at hk
  split at hk
  ·cases hk; rfl
  ·cases hk
 case makeInterface t x=>
  simp only[evOpH] at hk
  split at hk
  ·cases hk
  ·cases hk; rfl
  ·cases hk
 case makeFunc f first caps=>
  cases f<;>simp only[evOpH] at hk
  ·split at hk
   ·cases hk; rfl
   ·cases hk
  all_goals cases hk
 case slice t x lo hi mx=>
  cases mx with
  |some m=>simp only[evOpH] at hk; cases hk
  |none=>
   simp only[evOpH,evSlice] at hk
   split at hk
   ·split at hk
    ·simp only[evCut,real] at hk
     split at hk
     ·split at hk
      ·cases hk; rfl
      ·split at hk
       ·cases hk; rfl
       ·cases hk
      ·split at hk
       ·cases hk; rfl
       ·cases hk
      ·split at hk
       ·cases hk; rfl
       ·cases hk
      ·cases hk
     ·cases hk
    ·split at hk<;>cases hk
    ·cases hk
   ·cases hk
 case fieldAddr t x f=>
  simp only[evOpH] at hk
  rw[evFieldAddr_nat] at hk
  cases hb:evFieldAddr T t (ρ x) f h some<;>rw[hb] at hk<;>cases hk
  rfl
 case field t x f=>
  simp only[evOpH] at hk
  split at hk
  ·cases hk; rfl
  ·cases hk
 case indexAddr t x ix=>
  simp only[evOpH] at hk
  rw[evIndexAddr_nat] at hk
  cases hb:evIndexAddr real T t (ρ x) (ρ ix) h some<;>rw[hb] at hk<;>cases hk
  rfl
 case index t x ix=>
  simp only[evOpH] at hk
  rw[evIndexV_nat] at hk
  cases hb:evIndexV real T t (ρ x) (ρ ix) some<;>rw[hb] at hk<;>cases hk
  rfl
 case extract x ix=>
  simp only[evOpH] at hk
  split at hk
  ·split at hk
   ·cases hk; rfl
   ·cases hk
  ·cases hk
 case makeMap t r=>simp[opE] at hne
 case mapUpdate t m x y=>simp[opE] at hne
 case lookup t m x ok=>
  simp only[evOpH] at hk
  rw[evLook_nat] at hk
  cases hb:evLook T t (ρ m) (ρ x) ok h some<;>rw[hb] at hk<;>cases hk
  rfl
 case panic x=>
  simp only[evOpH] at hk
  split at hk<;>cases hk
 case call c=>
  obtain⟨callee,args,ts⟩:=c
  cases callee with
  |value f=>
   simp only[evOpH] at hk
   split at hk
   ·rename_i fid caps hfc
    unfold evCall at hk
    split at hk
    ·rename_i hno
     obtain⟨g',c',e1,e2⟩:=hcl f args ts rfl
     rw[hfc] at e1; cases e1
     rw[hno] at e2; cases e2
    ·rename_i S hS
     rw[Bool.not_true,Bool.false_and,cond_false] at hk
     unfold evPure at hk
     split at hk
     ·cases hk
     ·rename_i aw _
      rw[(hE.fs fid S hS).nat] at hk
      cases hout:S AOut aw some with
      |none=>rw[hout] at hk; cases hk
      |some out=>
       rw[hout] at hk
       simp only[Option.bind_some] at hk
       cases out with
       |pan u=>
        simp only at hk
        cases hu:(!u.flat2)<;>rw[hu] at hk<;>cases hk
        rfl
       |ret u=>
        simp only at hk
        split at hk
        ·cases hk; rfl
        ·cases hn:((args.toList.map ρ++caps).flatMap AVal.namedP).isEmpty
         ·rw[hn] at hk; cases hk
         ·rw[hn] at hk
          have:=List.isEmpty_iff.1 hn
          rw[this] at hk
          simp only[Bool.not_true,Bool.and_false,cond_false,killZ,killAll_nil] at hk
          cases hk; rfl
   ·rename_i i hfy
    obtain⟨g',c',e1,e2⟩:=hcl f args ts rfl
    rw[hfy] at e1; cases e1
   ·cases hk
  |invoke x m=>simp only[evOpH] at hk; cases hk
  |builtin b=>
   cases b
   case append=>cases hne
   case len=>
    simp only[evOpH] at hk
    split at hk
    ·split at hk
     ·split at hk
      ·cases hk; rfl
      ·cases hk
     ·split at hk
      ·cases hk
      ·cases hk; rfl
     ·split at hk
      ·cases hk; rfl
      ·cases hk
     ·cases hk
    ·cases hk
   case min=>
    simp only[evOpH] at hk
    split at hk
    ·split at hk
     ·cases hk; rfl
     ·cases hk
    ·cases hk
   case max=>
    simp only[evOpH] at hk
    split at hk
    ·split at hk
     ·cases hk; rfl
     ·cases hk
    ·cases hk
   all_goals (simp only[evOpH] at hk; cases hk)
 all_goals (simp only[evOpH] at hk; cases hk)
theorem evOpH_any {op:Op} {ty:TypeId} {ρ:Operand→AVal} {h h':List ABlk} {x:AExit} {v:AVal} (hne:opR op=false) (h2:List ABlk) (hk:evOpH real T env true op ty ρ h (fun x v h=>some (x,v,h))=some (x,v,h')) :
  evOpH real T env true op ty ρ h2 (fun x v h=>some (x,v,h))=some (x,v,h2):=by
 cases op
 case move x=>simp only[evOpH] at hk ⊢; cases hk; rfl
 case assign x=>
  simp only[evOpH] at hk ⊢
  split at hk
  ·split at hk
   ·rw[if_neg (by simp)] at hk; cases hk; simp
   ·cases hk; rfl
  ·cases hk; rfl
 case pick c x y=>
  simp only[evOpH] at hk ⊢
  split at hk
  ·rename_i t _
   split at hk
   ·cases hk; rfl
   ·simp only[real] at hk ⊢
    cases t<;>(cases hk; rfl)
  ·cases hk
 case build t parts=>
  simp only[evOpH] at hk ⊢
  split at hk
  ·split at hk
   ·cases hk
   ·rename_i hz
    split at hk
    ·simp only[Bool.true_or,cond_true] at hk ⊢; cases hk; simp[hz]
    ·cases hk
  ·cases hk
 case binOp o t x y yt=>
  simp only[evOpH] at hk ⊢
  rw[evBin_nat] at hk ⊢
  cases hb:evBin real T o t (ρ x) (ρ y) some<;>rw[hb] at hk<;>cases hk
  rfl
 case unOp o t x=>
  simp only[evOpH] at hk ⊢
  rw[evUn_nat] at hk ⊢
  cases hb:evUn o (ρ x) some<;>rw[hb] at hk<;>cases hk
  rfl
 case convert a b x=>
  simp only[evOpH] at hk ⊢
  split at hk
  ·cases hk; rfl
  ·cases hk
 case makeInterface t x=>
  simp only[evOpH] at hk ⊢
  split at hk
  ·cases hk
  ·cases hk; rfl
  ·cases hk
 case makeFunc f first caps=>
  cases f<;>simp only[evOpH] at hk ⊢
  ·split at hk
   ·cases hk; simp[*]
   ·cases hk
  all_goals cases hk
 case field t x f=>
  simp only[evOpH] at hk ⊢
  split at hk
  ·cases hk; rfl
  ·cases hk
 case index t x ix=>
  simp only[evOpH] at hk ⊢
  rw[evIndexV_nat] at hk ⊢
  cases hb:evIndexV real T t (ρ x) (ρ ix) some<;>rw[hb] at hk<;>cases hk
  rfl
 case extract x ix=>
  simp only[evOpH] at hk ⊢
  split at hk
  ·split at hk
   ·cases hk; rfl
   ·cases hk
  ·cases hk
 all_goals cases hne
end
theorem getD_of {h h':List ABlk} {i:Nat} (e:h'[i]?=h[i]?):h'.getD i .dead=h.getD i .dead:=by
 rw[List.getD_eq_getElem?_getD,List.getD_eq_getElem?_getD,e]
theorem peek0_of {h h':List ABlk} {v:AVal} (e:∀i∈v.named0,h'[i]?=h[i]?):peek0 h' v=peek0 h v:=by
 cases v with
 |own i=>simp only[peek0]; rw[getD_of (e i (by simp[AVal.named0]))]
 |fn f cs=>cases cs<;>rfl
 |_=>rfl
theorem peekL_of {f f':AVal→Option AVal}:∀(l:List AVal),(∀v∈l,f' v=f v)→peekL f' l=peekL f l
 | [],_=>rfl
 |v::r,e=>by
  simp only[peekL]
  rw[e v (by simp),peekL_of r fun u hu=>e u (List.mem_cons_of_mem _ hu)]
theorem peek1_of {h h':List ABlk} {v:AVal} (e:∀i∈v.named1,h'[i]?=h[i]?):peek1 h' v=peek1 h v:=by
 have inner:∀cs:List AVal,(∀i∈cs.flatMap AVal.named0,h'[i]?=h[i]?)→peekL (peek0 h') cs=peekL (peek0 h) cs:=fun cs e=>
  peekL_of cs fun v hv=>peek0_of fun i hi=>e i (List.mem_flatMap.2 ⟨v,hv,hi⟩)
 have innerC:∀cs:List AVal,(∀i∈cs.flatMap AVal.named0,h'[i]?=h[i]?)→peekL (peekC h') cs=peekL (peekC h) cs:=fun cs e=>
  peekL_of cs fun v hv=>by
   have e0:=peek0_of (v:=v) fun i hi=>e i (List.mem_flatMap.2 ⟨v,hv,hi⟩)
   cases v<;>first|rfl|exact e0
 cases v with
 |agg cs=>simp only[peek1]; rw[inner cs e]
 |fn f cs=>simp only[peek1]; rw[innerC cs e]
 |own i=>exact peek0_of (v:=.own i) e
 |_=>rfl
theorem peekP_of {h h':List ABlk} {v:AVal} (e:∀i∈v.namedP,h'[i]?=h[i]?):peekP h' v=peekP h v:=by
 cases v with
 |op i off=>simp only[peekP]; rw[getD_of (e i (by simp[AVal.namedP]))]
 |agg cs=>exact peek1_of (v:=.agg cs) e
 |fn f cs=>exact peek1_of (v:=.fn f cs) e
 |own i=>exact peek1_of (v:=.own i) e
 |_=>rfl
theorem cellsAt_of {h h':List ABlk} {v:AVal} {F:List Nat} (hf:blkRef v=some F) (e:∀i∈F,h'[i]?=h[i]?):cellsAt h' v=cellsAt h v:=by
 cases v with
 |op i off=>cases hf; simp only[cellsAt]; rw[getD_of (e i (by simp))]
 |oe i ix off=>cases hf; simp only[cellsAt]; rw[getD_of (e i (by simp))]
 |_=>rfl
theorem live_of {h h':List ABlk} {v:AVal} {F:List Nat} (hf:blkRef v=some F) (e:∀i∈F,h'[i]?=h[i]?):v.livePtr h'=v.livePtr h:=by
 cases v with
 |op i off=>cases hf; simp only[AVal.livePtr]; rw[getD_of (e i (by simp))]
 |oe i ix off=>cases hf; simp only[AVal.livePtr]; rw[getD_of (e i (by simp))]
 |_=>rfl
theorem len_of {h h':List ABlk} {v:AVal} {F:List Nat} (hf:blkRef v=some F) (e:∀i∈F,h'[i]?=h[i]?):evLen h' v=evLen h v:=by
 cases v with
 |own i=>cases hf; simp only[evLen]; rw[getD_of (e i (by simp))]
 |_=>rfl
theorem lenM_of {h h':List ABlk} {v:AVal} {F:List Nat} (hf:blkRef v=some F) (e:∀i∈F,h'[i]?=h[i]?):evLenM h' v=evLenM h v:=by
 cases v with
 |own i=>cases hf; simp only[evLenM]; rw[getD_of (e i (by simp))]
 |_=>rfl
section
variable {P:Program} {T:Tab} {env:Env} {α:Type} {ops:Array Oper}
theorem fieldAddr_of {t:TypeId} {v:AVal} {f:Nat} {h h':List ABlk} {F:List Nat} (hf:blkRef v=some F) (e:∀i∈F,h'[i]?=h[i]?) (k:AVal→Option α):evFieldAddr T t v f h' k=evFieldAddr T t v f h k:=by
 unfold evFieldAddr
 rw[live_of hf e]
theorem indexAddr_of {t:TypeId} {v ix:AVal} {h h':List ABlk} {F:List Nat} (hf:blkRef v=some F) (e:∀i∈F,h'[i]?=h[i]?) (k:AVal→Option α):evIndexAddr real T t v ix h' k=evIndexAddr real T t v ix h k:=by
 unfold evIndexAddr
 rw[live_of hf e]
 cases v with
 |own i=>cases hf; simp only; rw[getD_of (e i (by simp))]
 |_=>rfl
theorem store_of {t:TypeId} {a v:AVal} {h:List ABlk} {h1:List ABlk} {F:List Nat} (hf:blkRef a=some F) (hk:evStore T t a v h some=some h1) :
  h1.length=h.length∧(∀i,i ∉ F→h1[i]?=h[i]?)∧∀h',(∀i∈F,h'[i]?=h[i]?)→∃h1',evStore T t a v h' some=some h1'∧h1'.length=h'.length∧(∀i∈F,h1'[i]?=h1[i]?)∧∀i,i ∉ F→h1'[i]?=h'[i]?:=by
 have main:∀(i:Nat) (nb:ABlk),F=[i]→h1=h.set i nb→i<h.length→(∀h':List ABlk,h'[i]?=h[i]?→evStore T t a v h' some=some (h'.set i nb)) →
   h1.length=h.length∧(∀i,i ∉ F→h1[i]?=h[i]?)∧∀h',(∀i∈F,h'[i]?=h[i]?)→∃h1',evStore T t a v h' some=some h1'∧h1'.length=h'.length∧(∀i∈F,h1'[i]?=h1[i]?)∧∀i,i ∉ F→h1'[i]?=h'[i]?:=fun i nb e1 e2 hlt e3=>by
  subst e1; subst e2
  refine⟨by simp,fun j hj=>by rw[List.getElem?_set,if_neg fun e=>hj (by simp[e])],fun h' he=>⟨_,e3 h' (he i (by simp)),by simp,fun j hj=>?_,fun j hj=>by rw[List.getElem?_set,if_neg fun e=>hj (by simp[e])]⟩⟩
  simp only[List.mem_singleton] at hj
  subst hj
  have hi:=he j (by simp)
  have hlt':j<h'.length:=by
   rw[List.getElem?_eq_getElem hlt] at hi
   exact (List.getElem?_eq_some_iff.1 hi).1
  rw[List.getElem?_set,List.getElem?_set,if_pos rfl,if_pos rfl,if_pos hlt,if_pos hlt']
 unfold evStore at hk
 split at hk
 ·rename_i h0
  split at hk
  ·rename_i hs
   split at hk
   ·rename_i i off
    cases hf
    split at hk
    ·rename_i cs hh
     split at hk
     ·rename_i ho
      cases hk
      have hi:=getD_some (by simp) hh
      refine main i _ rfl rfl (List.getElem?_eq_some_iff.1 hi).1 fun h' e=>?_
      unfold evStore
      rw[if_pos h0,if_pos hs]
      simp only
      rw[getD_of e,hh]
      simp only
      rw[if_pos ho]
     ·cases hk
    ·cases hk
   ·rename_i i ix off
    cases hf
    split at hk
    ·rename_i t' e xs hh
     split at hk
     ·rename_i ho
      split at hk
      ·rename_i y hy
       cases hk
       have hi:=getD_some (by simp) hh
       refine main i _ rfl rfl (List.getElem?_eq_some_iff.1 hi).1 fun h' e=>?_
       unfold evStore
       rw[if_pos h0,if_pos hs]
       simp only
       rw[getD_of e,hh]
       simp only
       rw[if_pos ho,hy]
      ·cases hk
     ·cases hk
    ·cases hk
   ·cases hk
  ·cases hk
 ·cases hk
abbrev evT0 (T:Tab) (env:Env) (rp:Bool) (n:Nat) (op:Op) (ty:TypeId) (ρ:Operand→AVal) (h:List ABlk):Option (AExit × AVal × List ABlk):=evD0 real T env rp n op ty ρ h tripE
theorem relab_nat (n:Nat) (h:List ABlk) (x:AExit) (v:AVal) (h1:List ABlk) (k:AExit→AVal→List ABlk→Option α):relab n h x v h1 k=(relab n h x v h1 tripE).bind fun p=>k p.1 p.2.1 p.2.2:=by
 unfold relab
 split
 ·split
  ·split<;>rfl
  ·split<;>rfl
  ·rfl
 ·rfl
theorem evD0_nat (hE:EnvOk P env) (rp:Bool) (n:Nat) (op:Op) (ty:TypeId) (ρ:Operand→AVal) (h:List ABlk) (k:AExit→AVal→List ABlk→Option α):evD0 real T env rp n op ty ρ h k=(evT0 T env rp n op ty ρ h).bind fun p=>k p.1 p.2.1 p.2.2:=by
 unfold evT0 evD0
 cases isAlloc rp op
 ·exact evOpH_nat hE ..
 ·simp only[cond_true]
  rw[evOpH_nat hE,evOpH_nat hE (k:=fun x v h1=>relab n h x v h1 tripE)]
  cases evOpH real T env true op ty ρ h (fun x v h=>some (x,v,h)) with
  |none=>rfl
  |some p=>exact relab_nat ..
theorem evT0_new {rp:Bool} {n:Nat} {op:Op} {ty:TypeId} {ρ:Operand→AVal} {h:List ABlk} {x:AExit} {v:AVal} {h1:List ABlk} (ha:isAlloc false op=true) (hk:evT0 T env rp n op ty ρ h=some (x,v,h1)) :
  ∃cs,x=.normal∧v=.op n 0∧h1=h.set n (.box true cs)∧h[n]?=some .free∧∀h':List ABlk,h'[n]?=some .free→evT0 T env rp n op ty ρ h'=some (.normal,.op n 0,h'.set n (.box true cs)):=by
 have main:∀(cs:List AVal),(∀h':List ABlk,evT0 T env rp n op ty ρ h'=relab n h' .normal (.op h'.length 0) (h'++[.box true cs]) tripE)→∃cs,x=.normal∧v=.op n 0∧h1=h.set n (.box true cs)∧h[n]?=some .free∧∀h':List ABlk,h'[n]?=some .free→evT0 T env rp n op ty ρ h'=some (.normal,.op n 0,h'.set n (.box true cs)):=fun cs e=>by
  have at':∀h':List ABlk,h'[n]?=some .free→evT0 T env rp n op ty ρ h'=some (.normal,.op n 0,h'.set n (.box true cs)):=fun h' hn=>by
   rw[e h']
   unfold relab
   rw[hn]
   simp only
   rw[if_pos (by simp)]
   simp[tripE]
  have hn:h[n]?=some .free:=by
   rw[e h] at hk
   unfold relab at hk
   split at hk
   ·assumption
   ·cases hk
  rw[at' h hn] at hk
  cases hk
  exact⟨cs,rfl,rfl,rfl,hn,at'⟩
 cases op
 case alloc t=>
  cases hz:T.zero t with
  |none=>simp only[evT0,evD0,isAlloc,cond_true,evOpH,hz] at hk; cases hk
  |some z=>
   by_cases hs:z.cells.all AVal.scalar=true
   ·exact main z.cells fun h'=>by simp only[evT0,evD0,isAlloc,cond_true,evOpH,hz]; rw[if_pos hs]
   ·simp only[evT0,evD0,isAlloc,cond_true,evOpH,hz] at hk
    rw[if_neg hs] at hk; cases hk
 case box t y=>
  by_cases hs:(ρ y).cells.all AVal.scalar=true
  ·exact main (ρ y).cells fun h'=>by simp only[evT0,evD0,isAlloc,cond_true,evOpH]; rw[if_pos hs,Bool.true_or,cond_true]
  ·simp only[evT0,evD0,isAlloc,cond_true,evOpH] at hk
   rw[if_neg hs] at hk; cases hk
 all_goals cases ha
theorem onlyRd_spec {o:Option (List Nat)} {F W:List Nat} (h:onlyRd o=some (F,W)):o=some F∧[]=W:=by
 cases o with
 |none=>cases h
 |some l=>cases h; exact⟨rfl,rfl⟩
structure Local (F W:List Nat) (h h1:List ABlk) (D:List ABlk→Option (AExit × AVal × List ABlk)) (x:AExit) (v:AVal):Prop where
 sub:∀i∈W,i∈F
 len:h1.length=h.length
 off:∀i,i ∉ W→h1[i]?=h[i]?
 all:∀h':List ABlk,(∀i∈F,h'[i]?=h[i]?)→∃h1',D h'=some (x,v,h1')∧h1'.length=h'.length∧(∀i∈W,h1'[i]?=h1[i]?)∧∀i,i ∉ W→h1'[i]?=h'[i]?
theorem Local.same {F:List Nat} {h:List ABlk} {D:List ABlk→Option (AExit × AVal × List ABlk)} {x:AExit} {v:AVal} (hD:∀h':List ABlk,(∀i∈F,h'[i]?=h[i]?)→D h'=some (x,v,h')):Local F [] h h D x v:=
 ⟨fun i hi=>by simp at hi,rfl,fun _ _=>rfl,fun h' he=>⟨h',hD h' he,rfl,fun i hi=>by simp at hi,fun _ _=>rfl⟩⟩
theorem evOpH_row {op:Op} {ty:TypeId} {ρ:Operand→AVal} {h:List ABlk} (hr:isRowMk op=true) (k:AExit→AVal→List ABlk→Option α):evOpH real T env true op ty ρ h k=(evOpH real T env true op ty ρ h tripE).bind fun p=>k p.1 p.2.1 p.2.2:=by
 cases op
 case makeSlice t l c=>
  simp only[evOpH]
  rw[evMake_nat,evMake_nat (k:=fun v h'=>tripE .normal v h')]
  cases evMake real T t (ρ l) (ρ c) h (fun v h=>some (v,h))<;>rfl
 case buildSlice t len parts=>
  simp only[evOpH]
  split
  ·split
   ·split
    ·split
     ·rfl
     ·split
      ·split
       ·rfl
       ·split<;>rfl
      ·rfl
    ·rfl
   ·rfl
  ·rfl
 case call c=>
  obtain⟨callee,args,ts⟩:=c
  cases callee with
  |value f=>cases hr
  |invoke y m=>cases hr
  |builtin b=>
   cases b<;>first|(cases hr; done)|skip
   simp only[evOpH]
   split
   ·split
    ·rw[evAppend_nat,evAppend_nat (k:=fun v h'=>tripE .normal v h')]
     cases evAppend real T _ _ _ h (fun v h=>some (v,h))<;>rfl
    ·rfl
   ·rfl
 all_goals cases hr
def killD (h:List ABlk) (A:List Nat):List ABlk:=A.foldl (fun h i=>h.set i .dead) h
theorem killD_len:∀(A:List Nat) (h:List ABlk),(killD h A).length=h.length
 | [],h=>rfl
 |i::A,h=>by
  show (killD (h.set i .dead) A).length=h.length
  rw[killD_len A,List.length_set]
theorem killD_off:∀(A:List Nat) (h:List ABlk) (j:Nat),j ∉ A→(killD h A)[j]?=h[j]?
 | [],h,j,_=>rfl
 |i::A,h,j,hj=>by
  show (killD (h.set i .dead) A)[j]?=h[j]?
  rw[killD_off A _ j fun e=>hj (List.mem_cons_of_mem _ e),List.getElem?_set,if_neg fun e=>hj (by simp[e])]
theorem killD_at:∀(A:List Nat) (h:List ABlk) (j:Nat),(killD h A)[j]?=h[j]?∨(killD h A)[j]?=some .dead
 | [],h,j=>.inl rfl
 |i::A,h,j=>by
  show (killD (h.set i .dead) A)[j]?=h[j]?∨(killD (h.set i .dead) A)[j]?=some .dead
  rcases killD_at A (h.set i .dead) j with e|e
  ·rw[e,List.getElem?_set]
   by_cases hij:i=j
   ·subst hij
    by_cases hl:i<h.length
    ·rw[if_pos rfl,if_pos hl]; exact .inr rfl
    ·rw[if_pos rfl,if_neg hl,List.getElem?_eq_none (by omega)]; exact .inl rfl
   ·rw[if_neg hij]; exact .inl rfl
  ·exact .inr e
theorem killD_same {h h':List ABlk}:∀(A:List Nat) (j:Nat),h'[j]?=h[j]?→(killD h' A)[j]?=(killD h A)[j]?
 | [],j,e=>e
 |i::A,j,e=>by
  refine killD_same (h:=h.set i .dead) (h':=h'.set i .dead) A j ?_
  rw[List.getElem?_set,List.getElem?_set]
  by_cases hij:i=j
  ·subst hij
   have:i<h.length↔i<h'.length:=by
    constructor<;>intro hl
    ·rw[List.getElem?_eq_getElem hl] at e; exact (List.getElem?_eq_some_iff.1 e).1
    ·rw[List.getElem?_eq_getElem hl] at e; exact (List.getElem?_eq_some_iff.1 e.symm).1
   rw[if_pos rfl,if_pos rfl]
   by_cases hl:i<h.length
   ·rw[if_pos hl,if_pos (this.1 hl)]
   ·rw[if_neg hl,if_neg fun x=>hl (this.2 x)]
  ·rw[if_neg hij,if_neg hij]; exact e
def isRowB:ABlk→Prop
 |.row true _ _ _=>True
 |_=>False
structure RowMk (F A:List Nat) (h:List ABlk) (D:List ABlk→Option (AExit × AVal × List ABlk)) (x:AExit) (v:AVal) (h1:List ABlk) (b:ABlk):Prop where
 ex:x=.normal
 val:v=.own h.length
 mem:h1=killD h A++[b]
 row:isRowB b
 all:∀h':List ABlk,(∀i∈F,h'[i]?=h[i]?)→D h'=some (.normal,.own h'.length,killD h' A++[b])
theorem make_shape (t:TypeId) (l c:AVal):∃o:Option ABlk,(∀b,o=some b→isRowB b)∧∀(h:List ABlk) (k:AVal→List ABlk→Option (AExit × AVal × List ABlk)),evMake real T t l c h k=o.bind fun b=>k (.own h.length) (h++[b]):=by
 by_cases hx:∃b,isRowB b∧∀(h:List ABlk) (k:AVal→List ABlk→Option (AExit × AVal × List ABlk)),evMake real T t l c h k=k (.own h.length) (h++[b])
 ·obtain⟨b,h1,h2⟩:=hx
  exact⟨some b,fun b' e=>by cases e; exact h1,h2⟩
 ·refine⟨none,fun b e=>(by cases e),fun h k=>?_⟩
  unfold evMake
  split
  ·rename_i et n m e1
   split
   ·rename_i e z e4 e5
    split
    ·rename_i e6
     split
     ·rename_i y e7
      simp only[real]
      split
      ·rename_i e8
       exfalso
       refine hx ⟨.row true et e (List.replicate n.toNat y),trivial,fun h k=>?_⟩
       unfold evMake
       simp only[e1,e4,e5,e7,real]
       rw[if_pos e6,if_pos e8]
      ·rfl
     ·rfl
    ·rfl
   ·rfl
  ·rfl
theorem append_shape {t:TypeId} {x y:AVal} {A B:List Nat} (hx:blkRow x=some A) (hy:blkArg y=some B) {h:List ABlk} {v:AVal} {h1:List ABlk} (hk:evAppend real T t x y h (fun v h'=>tripE .normal v h')=some (.normal,v,h1)) :
  ∃b,isRowB b∧v=.own h.length∧h1=killD h A++[b]∧∀h':List ABlk,(∀i∈A++B,h'[i]?=h[i]?)→evAppend real T t x y h' (fun v h'=>tripE .normal v h')=some (.normal,.own h'.length,killD h' A++[b]):=by
 unfold evAppend at hk
 split at hk
 case h_2=>cases hk
 rename_i et hund
 split at hk
 ·cases hk
 rename_i hbt
 split at hk
 ·cases hk
 rename_i e xs hh hrow
 split at hk
 case isFalse=>cases hk
 rename_i hc
 -- the row
 have rw1:hh=killD h A∧∀h':List ABlk,(∀i∈A++B,h'[i]?=h[i]?)→rowOf T h' et x=some ⟨e,xs,killD h' A⟩:=by
  cases x<;>simp only[blkRow] at hx<;>cases hx
  ·simp only[rowOf] at hrow
   split at hrow
   ·rename_i ht
    split at hrow
    ·rename_i e2
     cases hrow
     refine⟨rfl,fun h' he=>?_⟩
     simp only[rowOf]
     rw[ht]
     simp only
     rw[if_pos e2]
     rfl
    ·cases hrow
   ·cases hrow
  ·rename_i i
   simp only[rowOf] at hrow
   split at hrow
   ·rename_i t' e' xs' ht
    split at hrow
    ·rename_i e2
     cases hrow
     refine⟨rfl,fun h' he=>?_⟩
     simp only[rowOf]
     rw[getD_of (he i (by simp)),ht]
     simp only
     rw[if_pos e2]
     rfl
    ·cases hrow
   ·cases hrow
 obtain⟨rfl,rw2⟩:=rw1
 have unf:∀h':List ABlk,(∀i∈A++B,h'[i]?=h[i]?)→∀(kk:AVal→List ABlk→Option (AExit × AVal × List ABlk)),evAppend real T t x y h' kk=(match (generalizing:=false) y with
    |.nils=>kk (.own (killD h' A).length) (killD h' A++[.row true et e xs])
    |y=>
     match asRo h' y with
     |none=>none
     |some ⟨d,ys⟩=>
      if hd:d=e then
       real.iff ((xs.length+ys.length)*T.bytes et≤room) inferInstance (kk (.own (killD h' A).length) (killD h' A++[.row true et e (xs++hd▸ys)])) none
      else none):=fun h' he kk=>by
  unfold evAppend
  rw[hund]
  simp only
  rw[if_neg hbt,rw2 h' he]
  simp only
  rw[if_pos hc]
  cases y<;>rfl
 cases y<;>simp only[blkArg] at hy<;>cases hy
 ·-- nils
  cases hk
  refine⟨.row true et e xs,trivial,by rw[killD_len],rfl,fun h' he=>?_⟩
  rw[unf h' he]
  simp only[killD_len]
  rfl
 ·-- ro
  rename_i d ys
  simp only[asRo] at hk
  split at hk
  ·rename_i hd
   simp only[real] at hk
   split at hk
   ·rename_i hrm
    cases hk
    refine⟨.row true et e (xs++hd▸ys),trivial,by rw[killD_len],rfl,fun h' he=>?_⟩
    rw[unf h' he]
    simp only[asRo,killD_len,real]
    rw[dif_pos hd,if_pos hrm]
    rfl
   ·cases hk
  ·cases hk
 ·-- own
  rename_i i
  simp only[asRo] at hk
  split at hk
  ·cases hk
  ·rename_i d ys hr
   split at hr
   ·rename_i w2 t2 e2 xs2 hrr
    split at hr
    case isFalse=>cases hr
    rename_i h02
    cases hr
    split at hk
    ·rename_i hd
     simp only[real] at hk
     split at hk
     ·rename_i hrm
      cases hk
      refine⟨.row true et e (xs++hd▸ys),trivial,by rw[killD_len],rfl,fun h' he=>?_⟩
      rw[unf h' he]
      simp only[asRo,killD_len,real]
      rw[getD_of (he i (by simp)),hrr]
      simp only[if_pos h02]
      rw[dif_pos hd,if_pos hrm]
      rfl
     ·cases hk
    ·cases hk
   ·cases hr
theorem over_all {β:Type}:∀(l vs:List β),vs.length=l.length→List.overAt l 0 vs=vs
 |l,[],h=>by
  have:l=[]:=List.eq_nil_of_length_eq_zero h.symm
  subst this; rfl
 | [],_::_,h=>by simp at h
 |_::l,v::vs,h=>by
  show v::List.overAt l 0 vs=_
  rw[over_all l vs (by simpa using h)]
theorem plain_peek {h:List ABlk}:∀(cs:List AVal),cs.all plainC=true→peekL (peek0 h) cs=some cs
 | [],_=>rfl
 |c::cs,ha=>by
  rw[List.all_cons,Bool.and_eq_true] at ha
  have e:peek0 h c=some c:=by cases c<;>first|rfl|(cases ha.1)
  unfold peekL
  rw[e,plain_peek cs ha.2]
theorem plain_named:∀(cs:List AVal),cs.all plainC=true→cs.flatMap AVal.named0=[]
 | [],_=>rfl
 |c::cs,ha=>by
  rw[List.all_cons,Bool.and_eq_true] at ha
  have e:c.named0=[]:=by cases c<;>first|rfl|(cases ha.1)
  rw[List.flatMap_cons,e,plain_named cs ha.2]; rfl
theorem rowmk_spec {fs:FuncId→Option Fsp} {n:Nat} {op:Op} {ty:TypeId} {ρ:Operand→AVal} {h:List ABlk} {x:AExit} {v:AVal} {h1:List ABlk} {F W:List Nat} (hr:isRowMk op=true) (hf:footOf fs true n ρ op=some (F,W)) (hk:evOpH real T env true op ty ρ h tripE=some (x,v,h1)) :
  ∃A b,W=A++[n]∧(∀i∈A,i∈F)∧n∈F∧RowMk F A h (fun h'=>evOpH real T env true op ty ρ h' tripE) x v h1 b:=by
 cases op
 case makeSlice t l c=>
  simp only[footOf,cond_true,Option.some.injEq,Prod.mk.injEq] at hf
  obtain⟨rfl,rfl⟩:=hf
  obtain⟨o,ho,e⟩:=make_shape (T:=T) t (ρ l) (ρ c)
  have e':∀h',evOpH real T env true (.makeSlice t l c) ty ρ h' tripE=o.bind fun b=>tripE .normal (.own h'.length) (h'++[b]):=fun h'=>e h' _
  rw[e'] at hk
  cases o with
  |none=>cases hk
  |some b=>
   cases hk
   exact⟨[],b,rfl,(fun i hi=>by simp at hi),by simp,rfl,rfl,rfl,ho b rfl,fun h' _=>e' h'⟩
 case buildSlice t len parts=>
  simp only[footOf,Bool.true_and] at hf
  cases hc0:((len==0&&parts.isEmpty) || (len==1&&oneP ρ parts.toList)) with
  |false=>
   rw[hc0] at hf
   simp only[cond_false] at hf
   cases hl1:len==1 with
   |false=>rw[hl1] at hf; cases hf
   |true=>
   rw[hl1,cond_true] at hf
   cases ho:oneO ρ parts.toList with
   |none=>rw[ho] at hf; cases hf
   |some j=>
   rw[ho] at hf
   simp only[Option.some.injEq,Prod.mk.injEq] at hf
   obtain⟨rfl,rfl⟩:=hf
   rw[beq_iff_eq] at hl1
   subst hl1
   obtain⟨y,hp,hy⟩:∃y,parts.toList=[(0,y)]∧ρ y=.own j:=by
    unfold oneO at ho
    split at ho
    ·rename_i y hl
     split at ho
     ·rename_i j' hj
      cases ho
      exact⟨y,hl,hj⟩
     ·cases ho
    ·cases ho
   simp only[evOpH] at hk
   split at hk
   case h_2=>cases hk
   rename_i et hund
   split at hk
   case h_2=>cases hk
   rename_i e z hsh hz
   split at hk
   case isFalse=>cases hk
   rename_i hcc
   have hcl:(ρ y).cells=[.own j]:=by rw[hy]; rfl
   rw[hp] at hk
   simp only[List.map_cons,List.map_nil,List.replicate_one,List.flatten_cons,List.flatten_nil,List.append_nil,fillC,Nat.zero_mul,Nat.zero_add,hcl] at hk
   by_cases hq:([AVal.own j]:List AVal).all AVal.scalar=true∧([AVal.own j]:List AVal).length=T.size et∧([AVal.own j]:List AVal).length≤z.cells.length
   case neg=>rw[if_neg hq] at hk; cases hk
   rw[if_pos hq] at hk
   have hov:List.overAt z.cells 0 [AVal.own j]=[.own j]:=over_all _ _ (by rw[hq.2.1,hcc.2.2.2.1,hcc.2.1])
   have hnm:dedup (([AVal.own j]:List AVal).flatMap AVal.named0)=[j]:=rfl
   simp only[hov,if_pos hq.1,hnm] at hk
   cases hpk:peekL (peek0 h) [AVal.own j] with
   |none=>rw[hpk] at hk; cases hk
   |some us=>
   rw[hpk] at hk
   simp only[] at hk
   cases hka:killAll h [j] with
   |none=>rw[hka] at hk; cases hk
   |some hh=>
   rw[hka] at hk
   cases hm:e.many 1 us with
   |none=>rw[hm] at hk; cases hk
   |some xs=>
   rw[hm] at hk
   cases hk
   have kd:∀ {h0:List ABlk},h0.getD j .dead=h.getD j .dead→killAll h0 [j]=some (killD h0 [j]):=fun {h0} e0=>by
    simp only[killAll] at hka ⊢
    rw[e0]
    split at hka
    ·rfl
    ·cases hka
   have e1:hh=killD h [j]:=Option.some.inj (hka.symm.trans (kd rfl))
   subst e1
   refine⟨[j],.row true et e xs,rfl,(fun i hi=>List.mem_append_left _ hi),by simp,rfl,by rw[killD_len],rfl,trivial,fun h' he=>?_⟩
   have ej:h'.getD j .dead=h.getD j .dead:=getD_of (he j (by simp))
   have hpk':peekL (peek0 h') [AVal.own j]=some us:=by
    rw[←hpk]
    simp only[peekL,peek0,ej]
   simp only[evOpH,hund,hsh,hz]
   rw[if_pos hcc,hp]
   simp only[List.map_cons,List.map_nil,List.replicate_one,List.flatten_cons,List.flatten_nil,List.append_nil,fillC,Nat.zero_mul,Nat.zero_add,hcl]
   rw[if_pos hq]
   simp only[hov,if_pos hq.1,hnm,hpk',kd ej,hm]
   rw[killD_len]
   rfl
  |true=>
  rw[hc0] at hf
  simp only[cond_true,Option.some.injEq,Prod.mk.injEq] at hf
  obtain⟨rfl,rfl⟩:=hf
  cases hc:(len==0&&parts.isEmpty) with
  |false=>
   rw[hc,Bool.false_or,Bool.and_eq_true,beq_iff_eq] at hc0
   obtain⟨rfl,hone⟩:=hc0
   obtain⟨y,hp,hpl⟩:∃y,parts.toList=[(0,y)]∧(ρ y).cells.all plainC=true:=by
    unfold oneP at hone
    split at hone
    ·rename_i i y hl
     rw[Bool.and_eq_true,beq_iff_eq] at hone
     obtain⟨rfl,h2⟩:=hone
     exact⟨y,hl,h2⟩
    ·cases hone
   simp only[evOpH] at hk
   split at hk
   case h_2=>cases hk
   rename_i et hund
   split at hk
   case h_2=>cases hk
   rename_i e z hsh hz
   split at hk
   case isFalse=>cases hk
   rename_i hcc
   rw[hp] at hk
   simp only[List.map_cons,List.map_nil,List.replicate_one,List.flatten_cons,List.flatten_nil,List.append_nil,fillC,Nat.zero_mul,Nat.zero_add] at hk
   by_cases hq:(ρ y).cells.all AVal.scalar=true∧(ρ y).cells.length=T.size et∧(ρ y).cells.length≤z.cells.length
   case neg=>rw[if_neg hq] at hk; cases hk
   rw[if_pos hq] at hk
   have hov:List.overAt z.cells 0 (ρ y).cells=(ρ y).cells:=over_all _ _ (by rw[hq.2.1,hcc.2.2.2.1,hcc.2.1])
   simp only[hov,if_pos hq.1,plain_peek _ hpl,plain_named _ hpl,dedup,killAll] at hk
   cases hm:e.many 1 (ρ y).cells with
   |none=>rw[hm] at hk; cases hk
   |some xs=>
    rw[hm] at hk
    cases hk
    refine⟨[],_,rfl,(fun i hi=>by simp at hi),by simp,rfl,rfl,rfl,trivial,fun h' _=>?_⟩
    simp only[evOpH,hund,hsh,hz]
    rw[if_pos hcc,hp]
    simp only[List.map_cons,List.map_nil,List.replicate_one,List.flatten_cons,List.flatten_nil,List.append_nil,fillC,Nat.zero_mul,Nat.zero_add]
    rw[if_pos hq]
    simp only[hov,if_pos hq.1,plain_peek _ hpl,plain_named _ hpl,dedup,killAll,hm]
    rfl
  |true=>
   simp only[Bool.and_eq_true,beq_iff_eq,Array.isEmpty_iff] at hc
   obtain⟨rfl,rfl⟩:=hc
   simp only[evOpH] at hk
   split at hk
   case h_2=>cases hk
   rename_i et hund
   split at hk
   case h_2=>cases hk
   rename_i e z hsh hz
   split at hk
   case isFalse=>cases hk
   rename_i hcc
   simp only[List.replicate_zero,List.flatten_nil,List.map_nil,fillC,List.all_nil,if_true,peekL,List.flatMap_nil,dedup,killAll,Sh.many] at hk
   cases hk
   refine⟨[],_,rfl,(fun i hi=>by simp at hi),by simp,rfl,rfl,rfl,trivial,fun h' _=>?_⟩
   simp only[evOpH,hund,hsh,hz]
   rw[if_pos hcc]
   simp only[List.replicate_zero,List.flatten_nil,List.map_nil,fillC,List.all_nil,if_true,peekL,List.flatMap_nil,dedup,killAll,Sh.many]
   rfl
 case call c=>
  obtain⟨callee,args,ts⟩:=c
  cases callee with
  |value f=>cases hr
  |invoke y m=>cases hr
  |builtin b=>
   cases b<;>first|(cases hr; done)|skip
   simp only[footOf,cond_true] at hf
   split at hf
   case h_2=>cases hf
   rename_i ax ay ha
   split at hf
   case h_2=>cases hf
   rename_i A B hA hB
   cases hf
   simp only[evOpH,ha] at hk
   split at hk
   case h_2=>cases hk
   rename_i x1 y1 t u e1 ht
   cases e1
   split at hk
   case isFalse=>cases hk
   rename_i htu
   have hx:x=.normal:=by
    rw[evAppend_nat] at hk
    cases hq:evAppend real T t (ρ ax) (ρ ay) h (fun v h=>some (v,h)) with
    |none=>rw[hq] at hk; cases hk
    |some q=>rw[hq] at hk; cases hk; rfl
   subst hx
   obtain⟨b,b1,b2,b3,b4⟩:=append_shape hA hB hk
   refine⟨A,b,rfl,fun i hi=>by simp[hi],by simp,rfl,b2,b3,b1,fun h' he=>?_⟩
   simp only[evOpH,ha,ht]
   rw[if_pos htu]
   exact b4 h' fun i hi=>he i (by simp only[List.mem_append] at hi ⊢; exact .inl hi)
 all_goals cases hr
theorem row_local {n:Nat} {op:Op} {ty:TypeId} {ρ:Operand→AVal} {h:List ABlk} {x:AExit} {v:AVal} {h1:List ABlk} {F W:List Nat} {fs:FuncId→Option Fsp} (hr:isRowMk op=true) (hf:footOf fs true n ρ op=some (F,W)) (hk:evT0 T env true n op ty ρ h=some (x,v,h1)) :
  Local F W h h1 (evT0 T env true n op ty ρ) x v:=by
 have ha:isAlloc true op=true:=by cases op<;>first|rfl|exact hr
 have e0:∀h',evT0 T env true n op ty ρ h'=evOpH real T env true op ty ρ h' fun x v h1=>relab n h' x v h1 tripE:=fun h'=>by
  unfold evT0 evD0
  rw[ha]; rfl
 have e1:∀h',evT0 T env true n op ty ρ h'=(evOpH real T env true op ty ρ h' tripE).bind fun p=>relab n h' p.1 p.2.1 p.2.2 tripE:=fun h'=>by
  rw[e0,evOpH_row hr]
 rw[e1] at hk
 cases hq:evOpH real T env true op ty ρ h tripE with
 |none=>rw[hq] at hk; cases hk
 |some p=>
  obtain⟨x0,v0,h0⟩:=p
  obtain⟨A,b,rfl,hAF,hnF,rm⟩:=rowmk_spec (fs:=fs) hr hf hq
  rw[hq] at hk
  simp only[Option.bind_some] at hk
  have r1:=rm.ex; have r2:=rm.val; have r3:=rm.mem
  subst r1; subst r2; subst r3
  have at':∀h':List ABlk,h'[n]?=some .free→relab n h' .normal (.own h'.length) (killD h' A++[b]) tripE=some (.normal,.own n,(killD h' A).set n b):=fun h' hn=>by
   unfold relab
   rw[hn]
   simp only
   rw[if_pos (by simp[killD_len])]
   have e2:(killD h' A++[b]).take h'.length=killD h' A:=by rw[←killD_len A h']; simp
   have e3:(killD h' A++[b]).getD h'.length .dead=b:=by rw[←killD_len A h']; simp
   rw[e2,e3]
   rfl
  have hn:h[n]?=some .free:=by
   unfold relab at hk
   split at hk
   ·assumption
   ·cases hk
  rw[at' h hn] at hk
  cases hk
  have hlt:n<h.length:=(List.getElem?_eq_some_iff.1 hn).1
  refine⟨fun i hi=>?_,by simp[killD_len],fun i hi=>?_,fun h' he=>?_⟩
  ·rcases List.mem_append.1 hi with hi|hi
   ·exact hAF i hi
   ·rw[List.mem_singleton] at hi; subst hi; exact hnF
  ·rw[List.mem_append,List.mem_singleton] at hi
   rw[List.getElem?_set,if_neg fun e=>hi (.inr e.symm),killD_off A h i fun e=>hi (.inl e)]
  ·have hn':h'[n]?=some .free:=(he n hnF).trans hn
   have hlt':n<h'.length:=(List.getElem?_eq_some_iff.1 hn').1
   refine⟨(killD h' A).set n b,?_,by simp[killD_len],fun i hi=>?_,fun i hi=>?_⟩
   ·rw[e1,rm.all h' he]
    exact at' h' hn'
   ·rw[List.getElem?_set,List.getElem?_set,killD_len,killD_len]
    by_cases hin:n=i
    ·subst hin; rw[if_pos rfl,if_pos rfl,if_pos hlt,if_pos hlt']
    ·rw[if_neg hin,if_neg hin]
     exact killD_same A i (he i (by
      rcases List.mem_append.1 hi with hi|hi
      ·exact hAF i hi
      ·rw[List.mem_singleton] at hi; exact absurd hi.symm hin))
   ·rw[List.mem_append,List.mem_singleton] at hi
    rw[List.getElem?_set,if_neg fun e=>hi (.inr e.symm),killD_off A h' i fun e=>hi (.inl e)]
theorem evT0_local (hE:EnvOk P env) {rp:Bool} {n:Nat} {op:Op} {ty:TypeId} {ρ:Operand→AVal} {h:List ABlk} {x:AExit} {v:AVal} {h1:List ABlk} {F W:List Nat} (hf:footOf env.fs rp n ρ op=some (F,W)) (hk:evT0 T env rp n op ty ρ h=some (x,v,h1)) :
  Local F W h h1 (evT0 T env rp n op ty ρ) x v:=by
 by_cases ha:isAlloc false op=true
 ·obtain⟨cs,rfl,rfl,rfl,hn,hall⟩:=evT0_new ha hk
  have hFW:F=[n]∧W=[n]:=by
   cases op<;>first|(cases ha; done)|(simp only[footOf,Option.some.injEq,Prod.mk.injEq] at hf; exact⟨hf.1.symm,hf.2.symm⟩)
  obtain⟨rfl,rfl⟩:=hFW
  have hlt:n<h.length:=(List.getElem?_eq_some_iff.1 hn).1
  refine⟨fun i hi=>hi,by simp,fun i hi=>by rw[List.getElem?_set,if_neg fun e=>hi (by simp[e])],fun h' he=>?_⟩
  have hn':h'[n]?=some .free:=(he n (by simp)).trans hn
  have hlt':n<h'.length:=(List.getElem?_eq_some_iff.1 hn').1
  refine⟨_,hall h' hn',by simp,fun i hi=>?_,fun i hi=>by rw[List.getElem?_set,if_neg fun e=>hi (by simp[e])]⟩
  simp only[List.mem_singleton] at hi
  subst hi
  rw[List.getElem?_set,List.getElem?_set,if_pos rfl,if_pos rfl,if_pos hlt,if_pos hlt']
 ·by_cases hrow:(rp&&isRowMk op)=true
  ·rw[Bool.and_eq_true] at hrow
   obtain⟨rfl,hrow⟩:=hrow
   exact row_local hrow hf hk
  have e0:∀h',evT0 T env rp n op ty ρ h'=evOpH real T env true op ty ρ h' tripE:=fun h'=>by
   unfold evT0 evD0
   have:isAlloc rp op=false:=by
    have h1:isAlloc false op=false:=by simpa using ha
    have h2:(rp&&isRowMk op)=false:=by simpa using hrow
    cases op<;>first|(cases h1; done)|exact h2
   rw[this]; rfl
  have pure:opE op=false→opR op=false→W=[]→Local F W h h1 (evT0 T env rp n op ty ρ) x v:=fun p1 p2 p3=>by
   subst p3
   rw[e0] at hk
   have hh:=evOpH_heap hE p1 (fun f args ts e=>by subst e; cases p2) hk
   subst hh
   exact .same fun h' _=>by rw[e0]; exact evOpH_any p2 h' hk
  have memo:opE op=false→W=[]→(∀f args ts,op=.call { callee:=.value f,args,argTypes:=ts }→∃g caps,ρ f=.fn g caps∧(env.fs g).isSome=true)→(∀h':List ABlk,(∀i∈F,h'[i]?=h[i]?)→evOpH real T env true op ty ρ h' tripE=(evOpH real T env true op ty ρ h tripE).map fun p=>(p.1,p.2.1,h'))→Local F W h h1 (evT0 T env rp n op ty ρ) x v:=fun p1 p3 pc hp=>by
   subst p3
   rw[e0] at hk
   have hh:=evOpH_heap hE p1 pc hk
   subst hh
   exact .same fun h' he=>by rw[e0,hp h' he,hk]; rfl
  cases op
  case store t a y=>
   have hf:blkRef (ρ a)=some F∧F=W:=by
    simp only[footOf] at hf
    split at hf
    ·rename_i l hl; cases hf; exact⟨hl,rfl⟩
    ·cases hf
   obtain⟨hf1,hf2⟩:=hf
   subst hf2
   rw[e0] at hk
   simp only[evOpH] at hk
   rw[evStore_nat] at hk
   cases hst:evStore T t (ρ a) (ρ y) h some with
   |none=>rw[hst] at hk; cases hk
   |some h2=>
    rw[hst] at hk
    cases hk
    obtain⟨q1,q2,q3⟩:=store_of hf1 hst
    refine⟨fun i hi=>hi,q1,q2,fun h' he=>?_⟩
    obtain⟨h1',r1,r2,r3,r4⟩:=q3 h' he
    refine⟨h1',?_,r2,r3,r4⟩
    rw[e0]
    simp only[evOpH]
    rw[evStore_nat,r1]
    rfl
  case load t a=>
   have hf:=onlyRd_spec hf
   refine memo rfl hf.2.symm (fun _ _ _ e=>by cases e) fun h' he=>?_
   simp only[evOpH]
   rw[cellsAt_of hf.1 he]
   split
   ·split<;>rfl
   ·rfl
  case nilCheck a=>
   have hf:=onlyRd_spec hf
   refine memo rfl hf.2.symm (fun _ _ _ e=>by cases e) fun h' he=>?_
   simp only[evOpH]
   rw[live_of hf.1 he]
   cases (ρ a).livePtr h<;>rfl
  case fieldAddr t a f=>
   have hf:=onlyRd_spec hf
   refine memo rfl hf.2.symm (fun _ _ _ e=>by cases e) fun h' he=>?_
   simp only[evOpH]
   rw[fieldAddr_of hf.1 he,evFieldAddr_nat,evFieldAddr_nat (k:=fun v=>tripE .normal v h)]
   cases evFieldAddr T t (ρ a) f h some<;>rfl
  case indexAddr t a ix=>
   have hf:=onlyRd_spec hf
   refine memo rfl hf.2.symm (fun _ _ _ e=>by cases e) fun h' he=>?_
   simp only[evOpH]
   rw[indexAddr_of hf.1 he,evIndexAddr_nat,evIndexAddr_nat (k:=fun v=>tripE .normal v h)]
   cases evIndexAddr real T t (ρ a) (ρ ix) h some<;>rfl
  case slice t y lo hi mx=>
   cases hy:ρ y with
   |ro e xs=>
    simp only[footOf,hy,Foot.no,Prod.mk.injEq,Option.some.injEq] at hf
    refine memo rfl hf.2.symm (fun _ _ _ e=>by cases e) fun h' he=>?_
    cases mx with
    |some m=>rfl
    |none=>
     simp only[evOpH,evSlice,hy]
     split
     ·unfold evCut
      split
      ·split<;>first
        |rfl
        |(simp only[real_iff']; split<;>rfl)
      ·rfl
     ·rfl
   |_=>simp[footOf,hy] at hf
  case call c=>
   obtain⟨callee,args,ts⟩:=c
   cases callee with
   |invoke y m=>simp[footOf,opE,opR] at hf
   |value f=>
    cases hy:ρ f with
    |fn fid caps=>
     simp only[footOf,hy] at hf
     cases hfs:env.fs fid with
     |none=>rw[hfs] at hf; cases hf
     |some S=>
     rw[hfs] at hf
     simp only[Prod.mk.injEq,Option.some.injEq] at hf
     obtain⟨hf1,hf2⟩:=hf
     refine memo rfl hf2.symm (fun f' args' ts' e=>?_) fun h' he=>?_
     ·cases e; exact⟨fid,caps,hy,by rw[hfs]; rfl⟩
     have hS:=hfs
     simp only[evOpH,hy,evCall,hfs,Bool.not_true,Bool.false_and,cond_false]
     ·skip
      have hp:peekL (peekP h') (args.toList.map ρ++caps)=peekL (peekP h) (args.toList.map ρ++caps):=peekL_of _ fun v hv=>peekP_of fun i hi=>he i (by rw[←hf1]; exact List.mem_flatMap.2 ⟨v,hv,hi⟩)
      unfold evPure
      rw[hp]
      split
      ·rfl
      ·rename_i aw _
       rw[(hE.fs fid S hS).nat (AExit × AVal × List ABlk) aw,(hE.fs fid S hS).nat (AExit × AVal × List ABlk) aw]
       cases S AOut aw some with
       |none=>rfl
       |some out=>
        simp only[Option.bind_some]
        cases out with
        |ret u=>
         simp only
         split
         ·rfl
         ·cases hn:((args.toList.map ρ++caps).flatMap AVal.namedP).isEmpty
          ·rfl
          ·have:=List.isEmpty_iff.1 hn
           rw[this]
           simp only[Bool.not_true,Bool.and_false,cond_false,killZ,killAll_nil]
           rfl
        |pan u=>
         simp only
         cases (!u.flat2)<;>rfl
    |_=>simp[footOf,hy] at hf
   |builtin b=>
    cases b
    case len=>
     cases hl:args.toList with
     |nil=>simp[footOf,hl] at hf
     |cons y r=>
      cases r with
      |cons _ _=>simp[footOf,hl] at hf
      |nil=>
       simp only[footOf,hl] at hf
       have hf:=onlyRd_spec hf
       refine memo rfl hf.2.symm (fun _ _ _ e=>by cases e) fun h' he=>?_
       simp only[evOpH,hl]
       cases ts.toList with
       |nil=>rfl
       |cons t r=>
        cases r with
        |cons _ _=>rfl
        |nil=>
         simp only
         rw[len_of hf.1 he,lenM_of hf.1 he]
         split
         ·split<;>rfl
         ·split<;>rfl
         ·split<;>rfl
         ·rfl
    case min=>
     simp only[footOf,Foot.no,Prod.mk.injEq,Option.some.injEq] at hf
     refine memo rfl hf.2.symm (fun _ _ _ e=>by cases e) fun h' he=>?_
     simp only[evOpH]
     split
     ·split<;>rfl
     ·rfl
    case max=>
     simp only[footOf,Foot.no,Prod.mk.injEq,Option.some.injEq] at hf
     refine memo rfl hf.2.symm (fun _ _ _ e=>by cases e) fun h' he=>?_
     simp only[evOpH]
     split
     ·split<;>rfl
     ·rfl
    case append=>
     cases rp with
     |true=>exact absurd rfl hrow
     |false=>simp[footOf] at hf
    all_goals simp[footOf,opE,opR] at hf
  case alloc=>exact absurd rfl ha
  case box=>exact absurd rfl ha
  case makeSlice t l c=>
   cases rp with
   |true=>exact absurd rfl hrow
   |false=>simp[footOf] at hf
  case buildSlice t l c=>
   cases rp with
   |true=>exact absurd rfl hrow
   |false=>simp[footOf] at hf
  all_goals first
   |(simp[footOf,opE,opR] at hf; done)
   |(simp only[footOf,opE,opR,Foot.no,Bool.or_false,Bool.false_eq_true,if_false,Prod.mk.injEq,Option.some.injEq] at hf; exact pure rfl rfl hf.2.symm)
end
section
variable {P:Program} {T:Tab} {env:Env} {α:Type}
abbrev evT (T:Tab) (env:Env) (rp:Bool) (n:Nat) (op:Op) (ty:TypeId) (ρ:Operand→AVal) (h:List ABlk):Option (AExit × AVal × List ABlk):=evD real T env rp n op ty ρ h tripE
theorem evD_some {rp:Bool} {n:Nat} {op:Op} {ty:TypeId} {ρ:Operand→AVal} {h:List ABlk} {k:AExit→AVal→List ABlk→Option α} {q:List Nat × List Nat} (hf:footOf env.fs rp n ρ op=some q):evD real T env rp n op ty ρ h k=evD0 real T env rp n op ty ρ h k:=by
 unfold evD
 rw[hf]
theorem hidD_nat (ms ls:List Nat) (h:List ABlk) (x:AExit) (v:AVal) (h1:List ABlk) (k:AExit→AVal→List ABlk→Option α):hidD ms ls h x v h1 k=(hidD ms ls h x v h1 tripE).bind fun p=>k p.1 p.2.1 p.2.2:=by
 cases x with
 |normal=>
  unfold hidD
  simp only
  cases okHid ms h h1 v<;>rfl
 |_=>rfl
theorem evD_nat (hE:EnvOk P env) (rp:Bool) (n:Nat) (op:Op) (ty:TypeId) (ρ:Operand→AVal) (h:List ABlk) (k:AExit→AVal→List ABlk→Option α):evD real T env rp n op ty ρ h k=(evT T env rp n op ty ρ h).bind fun p=>k p.1 p.2.1 p.2.2:=by
 unfold evT evD
 cases footOf env.fs rp n ρ op with
 |some q=>exact evD0_nat hE ..
 |none=>
  simp only
  cases env.msk.isEmpty&&env.lck.isEmpty
  ·cases isAlloc rp op
   ·cases okH env.msk env.lck h
    ·rfl
    ·simp only[cond_true,cond_false]
     rw[evOpH_nat hE,evOpH_nat hE (k:=fun x v h1=>hidD env.msk env.lck h x v h1 tripE)]
     cases evOpH real T env true op ty ρ (hideH env.msk env.lck h) (fun x v h=>some (x,v,h)) with
     |none=>rfl
     |some p=>exact hidD_nat ..
   ·rfl
  ·exact evD0_nat hE ..
theorem evT_local (hE:EnvOk P env) {rp:Bool} {n:Nat} {op:Op} {ty:TypeId} {ρ:Operand→AVal} {h:List ABlk} {x:AExit} {v:AVal} {h1:List ABlk} {F W:List Nat} (hf:footOf env.fs rp n ρ op=some (F,W)) (hk:evT T env rp n op ty ρ h=some (x,v,h1)) :
  Local F W h h1 (evT T env rp n op ty ρ) x v:=by
 have e:∀h',evT T env rp n op ty ρ h'=evT0 T env rp n op ty ρ h':=fun h'=>evD_some hf
 have l:=evT0_local hE hf (by rw[←e]; exact hk)
 exact⟨l.sub,l.len,l.off,fun h' he=>by rw[e]; exact l.all h' he⟩
theorem hid_get (f:Nat→ABlk→ABlk):∀(l:List ABlk) (n i:Nat),(mapAt f n l)[i]?=(l[i]?).map (f (n+i))
 | [],n,i=>by simp[mapAt]
 |b::l,n,i=>by
  cases i with
  |zero=>simp[mapAt]
  |succ i=>
   simp only[mapAt,List.getElem?_cons_succ]
   rw[hid_get f l]
   congr 1
   rw[Nat.add_assoc,Nat.add_comm 1 i]
theorem hid_len (f:Nat→ABlk→ABlk):∀(l:List ABlk) (n:Nat),(mapAt f n l).length=l.length
 | [],_=>rfl
 |b::l,n=>by simp[mapAt,hid_len f l]
theorem hideH_get (ms ls:List Nat) (h:List ABlk) (i:Nat):(hideH ms ls h)[i]?=(h[i]?).map (hideB ms ls i):=by
 unfold hideH
 rw[hid_get,Nat.zero_add]
theorem showH_get (ms ls:List Nat) (h h1:List ABlk) (i:Nat):(showH ms ls h h1)[i]?=(h1[i]?).map fun b=>bif ms.contains i || ls.contains i then h.getD i .dead else b:=by
 unfold showH
 rw[hid_get,Nat.zero_add]
theorem okH_lt {ms ls:List Nat} {h:List ABlk} (ho:okH ms ls h=true) {i:Nat} (hi:(ms.contains i || ls.contains i)=true):i<h.length:=by
 unfold okH at ho
 rw[Bool.and_eq_true,List.all_eq_true,List.all_eq_true] at ho
 rw[Bool.or_eq_true] at hi
 rcases hi with hi|hi
 ·exact of_decide_eq_true (ho.1 i (by simpa using hi))
 ·have:=ho.2 i (by simpa using hi)
  rw[Bool.and_eq_true] at this
  have hb:=this.1
  unfold boxX at hb
  rcases Nat.lt_or_ge i h.length with hl|hl
  ·exact hl
  ·rw[List.getD_eq_getElem?_getD,List.getElem?_eq_none hl] at hb
   cases hb
theorem okH_box {ms ls:List Nat} {h:List ABlk} (ho:okH ms ls h=true) {i:Nat} (hi:ls.contains i=true):(∃wr cs,h[i]?=some (.box wr cs))∧ms.contains i=false:=by
 have hl:=okH_lt ho (i:=i) (by rw[hi,Bool.or_true])
 unfold okH at ho
 rw[Bool.and_eq_true,List.all_eq_true,List.all_eq_true] at ho
 have:=ho.2 i (by simpa using hi)
 rw[Bool.and_eq_true,Bool.not_eq_true'] at this
 refine⟨?_,this.2⟩
 have hb:=this.1
 unfold boxX at hb
 rw[List.getD_eq_getElem?_getD,List.getElem?_eq_getElem hl] at hb
 rw[List.getElem?_eq_getElem hl]
 cases hx:h[i] with
 |box wr cs=>exact⟨wr,cs,rfl⟩
 |_=>rw[hx] at hb; cases hb
theorem okHid_len {ms:List Nat} {h h1:List ABlk} {v:AVal} (ho:okHid ms h h1 v=true):h.length≤h1.length:=by
 unfold okHid at ho
 rw[Bool.and_eq_true] at ho
 exact of_decide_eq_true ho.1
structure HLocal (ms ls:List Nat) (h h1:List ABlk) (D:List ABlk→Option (AExit × AVal × List ABlk)) (x:AExit) (v:AVal):Prop where
 keep:∀i,(ms.contains i || ls.contains i)=true→h1[i]?=h[i]?
 all:∀h':List ABlk,h'.length=h.length→(∀i,ms.contains i=false→h'[i]?=h[i]?)→∃h1',D h'=some (x,v,h1')∧∀i,h1'[i]?=if ms.contains i=true then h'[i]? else h1[i]?
theorem evT_heavy (hE:EnvOk P env) {rp:Bool} {n:Nat} {op:Op} {ty:TypeId} {ρ:Operand→AVal} {h:List ABlk} {x:AExit} {v:AVal} {h1:List ABlk} (hf:footOf env.fs rp n ρ op=none) (hk:evT T env rp n op ty ρ h=some (x,v,h1)) :
  HLocal env.msk env.lck h h1 (evT T env rp n op ty ρ) x v:=by
 have e:∀h',evT T env rp n op ty ρ h'=(bif env.msk.isEmpty&&env.lck.isEmpty then evD0 real T env rp n op ty ρ h' tripE
  else bif isAlloc rp op then none
  else bif okH env.msk env.lck h' then evOpH real T env true op ty ρ (hideH env.msk env.lck h') fun x v h1=>hidD env.msk env.lck h' x v h1 tripE
  else none):=fun h'=>by
  unfold evT evD
  rw[hf]
 cases hz:env.msk.isEmpty&&env.lck.isEmpty
 case true=>
  rw[Bool.and_eq_true,List.isEmpty_iff,List.isEmpty_iff] at hz
  refine⟨fun i hi=>?_,fun h' _ he=>⟨h1,?_,fun i=>?_⟩⟩
  ·rw[hz.1,hz.2] at hi; cases hi
  ·have:h'=h:=List.ext_getElem? fun i=>he i (by rw[hz.1]; rfl)
   rw[this]; exact hk
  ·rw[hz.1]; rfl
 rw[e,hz,cond_false] at hk
 cases ha:isAlloc rp op
 case true=>rw[ha] at hk; cases hk
 rw[ha,cond_false] at hk
 cases ho:okH env.msk env.lck h
 case false=>rw[ho] at hk; cases hk
 rw[ho,cond_true,evOpH_nat hE] at hk
 cases hq:evOpH real T env true op ty ρ (hideH env.msk env.lck h) (fun x v h=>some (x,v,h)) with
 |none=>rw[hq] at hk; cases hk
 |some p=>
  obtain⟨x0,v0,h0⟩:=p
  rw[hq,Option.bind_some] at hk
  cases x0 with
  |normal=>
   simp only[hidD] at hk
   cases hs:okHid env.msk h h0 v0
   ·rw[hs] at hk; cases hk
   ·rw[hs] at hk
    cases hk
    have hl0:=okHid_len hs
    refine⟨fun i hi=>?_,fun h' hl he=>⟨showH env.msk env.lck h' h0,?_,fun i=>?_⟩⟩
    ·have hlt:=okH_lt ho hi
     rw[showH_get,List.getElem?_eq_getElem (show i<h0.length by omega),hi,Option.map_some,cond_true,List.getD_eq_getElem?_getD,List.getElem?_eq_getElem hlt]
     rfl
    ·have eh:hideH env.msk env.lck h'=hideH env.msk env.lck h:=List.ext_getElem? fun i=>by
      rw[hideH_get,hideH_get]
      cases hm:env.msk.contains i
      ·rw[he i hm]
      ·rcases Nat.lt_or_ge i h.length with hlt|hge
       ·rw[List.getElem?_eq_getElem hlt,List.getElem?_eq_getElem (show i<h'.length by omega)]
        simp only[Option.map_some,hideB,hm,cond_true]
       ·rw[List.getElem?_eq_none hge,List.getElem?_eq_none (by omega)]
     have eo:okH env.msk env.lck h'=true:=by
      have ho':=ho
      unfold okH at ho ⊢
      rw[Bool.and_eq_true,List.all_eq_true,List.all_eq_true] at ho ⊢
      refine⟨fun i hi=>by rw[hl]; exact ho.1 i hi,fun i hi=>?_⟩
      have hb:=okH_box ho' (i:=i) (by simpa using hi)
      have h2:=ho.2 i hi
      have:boxX h' i=boxX h i:=by
       unfold boxX
       rw[List.getD_eq_getElem?_getD,List.getD_eq_getElem?_getD,he i hb.2]
      rw[this]; exact h2
     have es:okHid env.msk h' h0 v=true:=by
      unfold okHid at hs ⊢
      rw[hl]; exact hs
     rw[e,hz,cond_false,ha,cond_false,eo,cond_true,eh,evOpH_nat hE,hq,Option.bind_some]
     simp only[hidD,es,cond_true]
     rfl
    ·rw[showH_get,showH_get]
     split
     ·rename_i hm
      have hlt:=okH_lt ho (i:=i) (by rw[hm]; rfl)
      rw[List.getElem?_eq_getElem (show i<h0.length by omega),hm,Option.map_some,Bool.true_or,cond_true,List.getD_eq_getElem?_getD,List.getElem?_eq_getElem (show i<h'.length by omega)]
      rfl
     ·rename_i hm
      have hm':env.msk.contains i=false:=by simpa using hm
      congr 1
      funext b
      cases env.msk.contains i || env.lck.contains i
      ·rfl
      ·rw[cond_true,cond_true,List.getD_eq_getElem?_getD,List.getD_eq_getElem?_getD,he i hm']
  |_=>cases hk
end
end Go.Proofs.YtpgfncncgjihpaaGreat
