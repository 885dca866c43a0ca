/- Parts of the proof, in build order. -/
import Derived.Test.YtneggblnfobfcaaM6
namespace Go.Proofs.Ytneggblnfobfcaa
open Go.RowKit
structure Exe (n D:Nat) (w w':World):Prop where
 os:w'.os=w.os
 tape:w'.tape=w.tape
 output:w'.output=w.output
 size:w.heap.size≤w'.heap.size
 block:∀ k,k < n→k≠D→k≠D + 1→w'.heap[k]?=w.heap[k]?
theorem Exe.of {n D:Nat} {w w':World} (h:Below n w w'):Exe n D w w':=⟨h.os,h.tape,h.output,h.size,fun k hk _ _=>h.block k hk⟩
theorem Exe.trans {n D:Nat} {a b c:World} (h:Exe n D a b) (k:Exe n D b c):Exe n D a c:=
 ⟨k.os.trans h.os,k.tape.trans h.tape,k.output.trans h.output,Nat.le_trans h.size k.size,fun i hi hd he=>(k.block i hi hd he).trans (h.block i hi hd he)⟩
theorem Exe.set {n D:Nat} {w:World} (v:Value):Exe n D w (w.setCell ⟨D,0,none⟩ v):=
 ⟨rfl,rfl,rfl,by simp [World.setCell],fun k _ hd _=>Below.heap_setCell _ _ _ _ hd⟩
theorem Exe.set1 {n D:Nat} {w:World} (v:Value):Exe n D w (w.setCell ⟨D + 1,0,none⟩ v):=
 ⟨rfl,rfl,rfl,by simp [World.setCell],fun k _ _ hd=>Below.heap_setCell _ _ _ _ hd⟩
theorem Exe.drew {n D:Nat} {w w':World} (h:Exe n D w w'):Exe n D w { w' with drawn:=w'.drawn + 1 }:=⟨h.os,h.tape,h.output,h.size,h.block⟩
theorem two_kept {w w1:World} {c1 c2:Array Value} {t1 t2:TypeId} (h1:w1.heap[w.heap.size]?=((w.alloc (.cells c1 t1)).alloc (.cells c2 t2)).heap[w.heap.size]?) (h2:w1.heap[w.heap.size + 1]?=((w.alloc (.cells c1 t1)).alloc (.cells c2 t2)).heap[w.heap.size + 1]?) :
  (∀ i,w1.cell? ⟨w.heap.size,i,none⟩=c1[i]?)∧(∀ i,w1.cell? ⟨w.heap.size + 1,i,none⟩=c2[i]?)∧(∀ i,w1.frozen? ⟨w.heap.size,i,none⟩=false)∧(∀ i,w1.frozen? ⟨w.heap.size + 1,i,none⟩=false):=by
 refine ⟨fun i=>?_,fun i=>?_,fun i=>?_,fun i=>?_⟩
 ·rw [World.cell?_of_block (w':=w1) (a:=⟨w.heap.size,i,none⟩) h1]; simp [go_sem]
 ·rw [World.cell?_of_block (w':=w1) (a:=⟨w.heap.size + 1,i,none⟩) h2]; simp [go_sem]
 ·rw [World.frozen?_of_block (w':=w1) (a:=⟨w.heap.size,i,none⟩) h1]; simp [go_sem]
 ·rw [World.frozen?_of_block (w':=w1) (a:=⟨w.heap.size + 1,i,none⟩) h2]; simp [go_sem]
theorem cellSetNe {w:World} {a b:Addr} (v:Value) (h:a≠b):(w.setCell a v).cell? b=w.cell? b:=World.cell?_setCell_other w a b v h
def fxPanic (e:Int):List PanicEntry:=[{ v:=.iface 117 (.agg #[.int .i64 e]),recovered:=false }]
theorem fxassert_yes (c:Int) (w:World):(Instr.typeAssert (.iface 117 (.agg #[.int .i64 c])) 20 117 true).run Try.prog w=.ok (.tuple #[.agg #[.int .i64 c],.bool true]) w:=by kernel_rfl
theorem fxassert_nil (w:World):(Instr.typeAssert .nilIface 20 117 true).run Try.prog w=.ok (.tuple #[.agg #[.int .i64 0],.bool false]) w:=by kernel_rfl
theorem fitried1_panic (b:Nat) (x y c:Int) (w:World) (hp:w.cell? ⟨b,0,none⟩=some (.int .i64 x)) (hq:w.cell? ⟨b + 1,0,none⟩=some (.int .i64 y)) (fp:w.frozen? ⟨b,0,none⟩=false) (fq:w.frozen? ⟨b + 1,0,none⟩=false) (hqb:b + 1 < w.heap.size) :
  CallsD Try.prog 63 #[.pointer (some ⟨b,0,none⟩),.pointer (some ⟨b + 1,0,none⟩)] (.panicking (fxPanic c)) w fun e u' w'=>
   e=.returned (.tuple #[])∧u'=.panicking [{ v:=.iface 117 (.agg #[.int .i64 c]),recovered:=true }]∧w'.cell? ⟨b,0,none⟩=some (.int .i64 0)∧w'.cell? ⟨b + 1,0,none⟩=some (.int .i64 c)∧Exe w.heap.size b w w':=by
 refine callsD_of_wpS Try.func63 rfl fun c₀ cs hu=>?_
 apply wpS_seq
 apply wpS_region
 simp [wpOpsS,go_sem,recoverD,hu,fxPanic,Try.ntmps63,Exit.thenS,Array.replicate,List.replicate]
 refine wpS_of_wp ?_
 clear hu
 have hta:=fun w=>fxassert_yes c w
 have ha:∀ o,Below w.heap.size w (w.alloc o):=fun o=>(Below.refl _ _).alloc (Nat.le_refl _) o
 have hp':∀ o,(w.alloc o).cell? ⟨b,0,none⟩=some (.int .i64 x):=fun o=>((ha o).cell (p:=⟨b,0,none⟩) (by simp; omega)).trans hp
 have hq':∀ o,(w.alloc o).cell? ⟨b + 1,0,none⟩=some (.int .i64 y):=fun o=>((ha o).cell (p:=⟨b + 1,0,none⟩) (by simp; omega)).trans hq
 have fp':∀ o,(w.alloc o).frozen? ⟨b,0,none⟩=false:=fun o=>((ha o).frozen (p:=⟨b,0,none⟩) (by simp; omega)).trans fp
 have fq':∀ o,(w.alloc o).frozen? ⟨b + 1,0,none⟩=false:=fun o=>((ha o).frozen (p:=⟨b + 1,0,none⟩) (by simp; omega)).trans fq
 clear ha
 go_wp2
 go_region
 all_goals
  go_big_unhide
  simp [bodyPostS,results,Try.results63,go_sem]
  refine ⟨cellSet _ (hp' _),cellSet (u:=.int .i64 y) _ ((cellSetNe _ (by simp)).trans (hq' _)),?_⟩
  exact (((Exe.of ((Below.refl w.heap.size w).alloc (Nat.le_refl _) _)).trans (.set _)).trans (.set1 _)).drew
theorem fitried1_idle (b:Nat) (w:World) :
  CallsD Try.prog 63 #[.pointer (some ⟨b,0,none⟩),.pointer (some ⟨b + 1,0,none⟩)] .returning w fun e u' w'=>
   e=.returned (.tuple #[])∧u'=.returning∧Below w.heap.size w w':=by
 refine callsD_of_wpS Try.func63 rfl fun c₀ cs hu=>?_
 apply wpS_seq
 apply wpS_region
 simp [wpOpsS,go_sem,recoverD,hu,Try.ntmps63,Exit.thenS,Array.replicate,List.replicate]
 refine wpS_of_wp ?_
 have hta:=fun w=>fxassert_nil w
 go_wp2
 all_goals
  simp [bodyPostS,results,Try.results63,go_sem]
  exact ⟨.returning,by cases c₀; simp_all,rfl,(Below.refl _ _).alloc (Nat.le_refl _) _⟩
set_option maxHeartbeats 1000000 in
theorem fitried_ok (K:FuncId) (caps:Array Value) (v:Int) (Q:World→Prop) (he:∀ w,(callFunc K caps).run Try.prog w=.ok (.enter K caps) w) (w:World)
  (h:∀ w1,Below w.heap.size w w1→w.heap.size + 1 < w1.heap.size→Calls Try.prog K caps w1 fun e w'=>e=.returned (.int .i64 v)∧w'.heap[w.heap.size]?=w1.heap[w.heap.size]?∧w'.heap[w.heap.size + 1]?=w1.heap[w.heap.size + 1]?∧w1.heap.size≤w'.heap.size∧Q w') :
  Calls Try.prog 54 #[.func (.func K) #[] caps] w fun e w'=>e=.returned (.tuple #[.int .i64 v,.int .i64 0])∧∃ w2,Q w2∧Exe w2.heap.size w.heap.size w2 w':=by
 have hmf:∀ (fn:Fn) (first cap:Array Value) (w:World),(Instr.makeFunc fn first cap).run Try.prog w=.ok (.func fn first cap) w:=fun _ _ _ _=>rfl
 have HH:=hidOf h
 have hcall:∀ w,(callFunc K caps).run Try.prog w=.ok (.enter K caps) w:=he
 clear h he
 go_enter_defers Try.func54,Try.ntmps54
 go_wp2_with (go_at_fn K; refine (HH.out _ (((Below.refl _ _).alloc (Nat.le_refl _) _).alloc (by simp) _) (by simp)).mono ?_; rintro e w1 ⟨rfl,hb1,hb2,hz1,hq⟩; obtain ⟨hc1,hc2,hf1,hf2⟩:=two_kept hb1 hb2; have hz:w.heap.size + 1 < w1.heap.size:=(by simp at hz1; omega); have hd1:=hc1 0; have hd2:=hc2 0)
 refine leaves_cons (f:=63) (args:=#[.pointer (some ⟨w.heap.size,0,none⟩),.pointer (some ⟨w.heap.size + 1,0,none⟩)]) (by simp) (by simp [go_sem]) ?_
 have hs:((w1.setCell ⟨w.heap.size,0,none⟩ (.int .i64 v)).setCell ⟨w.heap.size + 1,0,none⟩ (.int .i64 0)).heap.size=w1.heap.size:=by simp [World.setCell]
 refine (fitried1_idle w.heap.size _).mono ?_
 rintro e u' w2 ⟨rfl,rfl,hb2⟩
 rw [hs] at hb2
 have g1:w2.cell? ⟨w.heap.size,0,none⟩=some (.int .i64 v):=by
  rw [hb2.cell (p:=⟨w.heap.size,0,none⟩) (by show w.heap.size < _; omega),cellSetNe _ (by simp)]
  exact cellSet _ hd1
 have g2:w2.cell? ⟨w.heap.size + 1,0,none⟩=some (.int .i64 0):=by
  rw [hb2.cell (p:=⟨w.heap.size + 1,0,none⟩) hz]
  exact cellSet (u:=.int .i64 0) _ ((cellSetNe _ (by simp)).trans hd2)
 clear HH hcall hmf hc1 hc2 hf1 hf2 hd1 hd2
 simp [Leaves,settle,results,Try.results54,go_sem,g1,g2]
 exact ⟨w1,hq,((Exe.set _).trans (.set1 _)).trans (Exe.of hb2)⟩
set_option maxHeartbeats 1000000 in
theorem fitried_err (K:FuncId) (caps:Array Value) (c:Int) (Q:World→Prop) (he:∀ w,(callFunc K caps).run Try.prog w=.ok (.enter K caps) w) (w:World)
  (h:∀ w1,Below w.heap.size w w1→w.heap.size + 1 < w1.heap.size→Calls Try.prog K caps w1 fun e w'=>e=.panicked (fxPanic c)∧w'.heap[w.heap.size]?=w1.heap[w.heap.size]?∧w'.heap[w.heap.size + 1]?=w1.heap[w.heap.size + 1]?∧w1.heap.size≤w'.heap.size∧Q w') :
  Calls Try.prog 54 #[.func (.func K) #[] caps] w fun e w'=>e=.returned (.tuple #[.int .i64 0,.int .i64 c])∧∃ w2,Q w2∧Exe w2.heap.size w.heap.size w2 w':=by
 have hmf:∀ (fn:Fn) (first cap:Array Value) (w:World),(Instr.makeFunc fn first cap).run Try.prog w=.ok (.func fn first cap) w:=fun _ _ _ _=>rfl
 have HH:=hidOf h
 have hcall:∀ w,(callFunc K caps).run Try.prog w=.ok (.enter K caps) w:=he
 clear h he
 go_enter_defers Try.func54,Try.ntmps54
 go_wp2_with (go_at_fn K; refine (HH.out _ (((Below.refl _ _).alloc (Nat.le_refl _) _).alloc (by simp) _) (by simp)).mono ?_; rintro e w1 ⟨rfl,hb1,hb2,hz1,hq⟩; obtain ⟨hc1,hc2,hf1,hf2⟩:=two_kept hb1 hb2; have hz:w.heap.size + 1 < w1.heap.size:=(by simp at hz1; omega))
 refine leaves_cons (f:=63) (args:=#[.pointer (some ⟨w.heap.size,0,none⟩),.pointer (some ⟨w.heap.size + 1,0,none⟩)]) (by simp) (by simp [go_sem]) ?_
 refine (fitried1_panic w.heap.size 0 0 c _ (hc1 0) (hc2 0) (hf1 0) (hf2 0) hz).mono ?_
 rintro e u' w2 ⟨rfl,rfl,g1,g2,hb2⟩
 clear HH hcall hmf hc1 hc2 hf1 hf2
 simp [Leaves,settle,results,Try.results54,go_sem,g1,g2]
 exact ⟨w1,hq,hb2⟩
theorem le_exe {K K2:Nat→Prop} {h g} {w w':World} {D:Nat} (s:St K2 h g w) (hM:∀ b,g.M b→b≠D∧b≠D + 1) (hK:∀ b,K b→(b≠D∧b≠D + 1)∧K2 b) (e:Exe w.heap.size D w w'):Le K h g w h g w' where
 len:=Nat.le_refl _
 here:=fun _ h=>h
 m:=fun _ h=>h
 new:=fun _ h=>.inl h
 mw:=fun b hb=>e.block b (s.low b hb) (hM b hb).1 (hM b hb).2
 k:=fun b hb=>e.block b (s.klow b (hK b hb).2) (hK b hb).1.1 (hK b hb).1.2
 box:=fun _ wr cs' _ h=>⟨wr,cs',h,rfl,rfl⟩
 row:=fun _ wr _ _ xs' _ h=>⟨wr,xs',h,fun _=>rfl,rfl⟩
 lp:=fun _ st pend _ _ _ _ _ h=>⟨st,pend,h,rfl⟩
 lockb:=fun _ _ h=>h
 lockr:=fun _ _ _ _ h=>h
 os:=e.os
 tape:=e.tape
 output:=e.output
 size:=e.size
theorem st_exe {K K2:Nat→Prop} {h g} {w w':World} {D:Nat} (s:St K2 h g w) (hD:K2 D∧K2 (D + 1)) (hM:∀ b,g.M b→b≠D∧b≠D + 1) (hK:∀ b,K b→(b≠D∧b≠D + 1)∧K2 b) (e:Exe w.heap.size D w w'):St K h g w' where
 blk:=fun i b hb=>(s.blk i b hb).mono (le_exe s hM hK e) rfl fun n hd hn=>by
  obtain ⟨h1,h2,h3⟩:=s.sep i n ⟨b,hb,hd⟩ hn
  exact e.block n h3 (fun e'=>h1 (by rw [e']; exact hD.1)) fun e'=>h1 (by rw [e']; exact hD.2)
 inj:=s.inj
 sep:=fun i n ai hn=>by
  obtain ⟨h1,h2,h3⟩:=s.sep i n ai hn
  exact ⟨fun hk=>h1 (hK n hk).2,h2,Nat.lt_of_lt_of_le h3 e.size⟩
 low:=fun b hb=>Nat.lt_of_lt_of_le (s.low b hb) e.size
 klow:=fun b hb=>Nat.lt_of_lt_of_le (s.klow b (hK b hb).2) e.size
def tried2S (mis:TypeId) (fit:AVal→Bool) (zero:AVal) (cv:Cv):Cv:=fun _ v args h k=>
 match v,args with
 | .fn _ [],[.fn f caps]=>cv _ (.fn f caps) [] h fun x u h1=>
   match x with
   | .normal=>if fit u=true then k .normal (.tup [u,.int .i64 0]) h1 else none
   | .pan (.ifc t (.agg [.int .i64 e]))=>if t=mis then k .normal (.tup [zero,.int .i64 e]) h1 else none
   | _=>none
 | _,_=>none
structure Tried2Ok (P:Program) (f:FuncId) (mis:TypeId) (fit:AVal→Bool) (zf:AVal→Value) (zero:AVal) (zv:Value):Prop where
 shape:∀ h g w u z,fit u=true→Rep h g w u z→z=zf u
 rep:∀ h g w u,fit u=true→Rep h g w u (zf u)
 repz:∀ h g w,Rep h g w zero zv
 enter:∀ args w,(callFunc f args).run P w=.ok (.enter f args) w
 ok:∀ (K:FuncId) (caps:Array Value) (u:AVal) (Q:World→Prop),fit u=true→(∀ w,(callFunc K caps).run P w=.ok (.enter K caps) w)→∀ (w:World),
  (∀ w1,Below w.heap.size w w1→w.heap.size + 1 < w1.heap.size→Calls P K caps w1 fun e w'=>e=.returned (zf u)∧w'.heap[w.heap.size]?=w1.heap[w.heap.size]?∧w'.heap[w.heap.size + 1]?=w1.heap[w.heap.size + 1]?∧w1.heap.size≤w'.heap.size∧Q w') →
  Calls P f #[.func (.func K) #[] caps] w fun e w'=>e=.returned (.tuple #[zf u,.int .i64 0])∧∃ w2,Q w2∧Exe w2.heap.size w.heap.size w2 w'
 err:∀ (K:FuncId) (caps:Array Value) (c:Int) (Q:World→Prop),(∀ w,(callFunc K caps).run P w=.ok (.enter K caps) w)→∀ (w:World),
  (∀ w1,Below w.heap.size w w1→w.heap.size + 1 < w1.heap.size→Calls P K caps w1 fun e w'=>e=.panicked [{ v:=.iface mis (.agg #[.int .i64 c]),recovered:=false }]∧w'.heap[w.heap.size]?=w1.heap[w.heap.size]?∧w'.heap[w.heap.size + 1]?=w1.heap[w.heap.size + 1]?∧w1.heap.size≤w'.heap.size∧Q w') →
  Calls P f #[.func (.func K) #[] caps] w fun e w'=>e=.returned (.tuple #[zv,.int .i64 c])∧∃ w2,Q w2∧Exe w2.heap.size w.heap.size w2 w'
theorem tried2_at {P:Program} {f:FuncId} {mis:TypeId} {fit:AVal→Bool} {zf:AVal→Value} {zero:AVal} {zv:Value} (ht:Tried2Ok P f mis fit zf zero zv) (cv:Cv) (hcv:CvOk P cv) (caps0:List AVal):CvAt P (tried2S mis fit zero cv) (.fn f caps0) where
 nat:=fun α args h k=>by
  unfold tried2S
  split
  ·rename_i f' fk caps heq
   refine (hcv.nat _ (.fn fk caps) [] h _).trans (Eq.trans ?_ (congrArg (fun z:Option (AExit × AVal × List ABlk)=>z.bind fun p=>k p.1 p.2.1 p.2.2) (hcv.nat _ (.fn fk caps) [] h _).symm))
   cases cv _ (.fn fk caps) [] h tripE with
   | none=>rfl
   | some p=>
     obtain ⟨x,u,h1⟩:=p
     simp only [Option.bind_some]
     split
     ·split<;>rfl
     ·split<;>rfl
     ·rfl
  ·rfl
 ok:=fun args h x u h1 hk K g w fv cargs s hfv hl hr=>by
  unfold tried2S at hk
  split at hk
  ·rename_i f' fk caps heq
   cases heq
   rw [hcv.nat] at hk
   obtain ⟨carr,rfl,hcl⟩:=rep_fn hfv
   have hc0:carr=#[]:=Array.eq_empty_of_size_eq_zero hcl.symm
   subst hc0
   obtain ⟨l⟩:=cargs
   match l,hl with
   | [z],_=>
     have hz:=hr 0 _ z rfl rfl
     obtain ⟨karr,rfl,hkl⟩:=rep_fn hz
     -- the call below
     have below:∀ x0 u0,cv _ (.fn fk caps) [] h tripE=some (x0,u0,h1)→∀ w1,Below w.heap.size w w1→w.heap.size + 1 < w1.heap.size →
       (∀ w,(callFunc fk karr).run P w=.ok (.enter fk karr) w)∧Calls P fk karr w1 (CvPost (fun b=>K b∨b=w.heap.size∨b=w.heap.size + 1) h g w1 h1 x0 u0):=fun x0 u0 hc w1 hb hlt=>by
      have s1:=s.below hb g.M (fun _ h=>h) (fun _ h=>.inl h) fun b hb'=>Nat.lt_of_lt_of_le (s.low b hb') hb.size
      have l1:=le_below s hb g.M (fun _ h=>h) (fun _ h=>.inl h)
      have s2:St (fun b=>K b∨b=w.heap.size∨b=w.heap.size + 1) h g w1:={
       blk:=s1.blk
       inj:=s1.inj
       sep:=fun i b ha hn=>by
        obtain ⟨a1,a2,a3⟩:=s1.sep i b ha hn
        obtain ⟨_,_,a4⟩:=s.sep i b ha hn
        exact ⟨fun hk=>hk.elim a1 fun e=>by omega,a2,a3⟩
       low:=s1.low
       klow:=fun b hb'=>hb'.elim (s1.klow b) fun e=>by omega }
      rcases hcv.ok (.fn fk caps) [] h x0 u0 h1 hc _ g w1 (.func (.func fk) #[] karr) #[] s2 (hz.mono l1) rfl (fun j c z hc=>by simp at hc) with ⟨f2,c2,he,hen,hcall⟩ | ⟨_,_,_,_,_,he,_⟩ | ⟨_,_,_,_,⟨z,hz,_⟩,_⟩
      ·cases he
       simp only [Array.empty_append] at hen hcall
       exact ⟨hen,hcall⟩
      ·cases he
      ·simp at hz
     have hen:∀ x0 u0,cv _ (.fn fk caps) [] h tripE=some (x0,u0,h1)→∀ w,(callFunc fk karr).run P w=.ok (.enter fk karr) w:=fun x0 u0 hc=>
      (below x0 u0 hc ((w.alloc (.cells #[] 0)).alloc (.cells #[] 0)) (((Below.refl _ _).alloc (Nat.le_refl _) _).alloc (by simp) _) (by simp)).1
     let Q:World→Prop:=fun w2=>∃ g',St (fun b=>K b∨b=w.heap.size∨b=w.heap.size + 1) h1 g' w2∧Le K h g w h1 g' w2∧∀ b,g'.M b→b≠w.heap.size∧b≠w.heap.size + 1
     have mkQ:∀ w1 w2 g',Below w.heap.size w w1→St (fun b=>K b∨b=w.heap.size∨b=w.heap.size + 1) h1 g' w2→Le (fun b=>K b∨b=w.heap.size∨b=w.heap.size + 1) h g w1 h1 g' w2→Q w2:=fun w1 w2 g' hb a1 a2=>
      ⟨g',a1,(le_below s hb g.M (fun _ h=>h) (fun _ h=>.inl h)).trans (a2.less fun b hb=>.inl hb),fun b hb'=>(a2.new b hb').elim (fun h=>by have:=s.low b h; omega) fun h=>⟨fun e=>h (.inr (.inl e)),fun e=>h (.inr (.inr e))⟩⟩
     have fin:∀ (n:Int) (u:AVal) (z:Value) w2 w',(∀ h g w,Rep h g w u z)→Q w2→Exe w2.heap.size w.heap.size w2 w'→CvPost K h g w h1 .normal (.tup [u,.int .i64 n]) (.returned (.tuple #[z,.int .i64 n])) w':=fun n u z w2 w' hz ⟨g',a1,a2,a3⟩ e=>by
      have hK:∀ b,K b→(b≠w.heap.size∧b≠w.heap.size + 1)∧(K b∨b=w.heap.size∨b=w.heap.size + 1):=fun b hb=>⟨by have:=s.klow b hb; omega,.inl hb⟩
      refine ⟨g',st_exe a1 ⟨.inr (.inl rfl),.inr (.inr rfl)⟩ a3 hK e,a2.trans (le_exe a1 a3 hK e),_,rfl,.tup _ _ rfl fun j c x hc hx=>?_⟩
      match j with
      | 0=>cases hc; cases hx; exact hz _ _ _
      | 1=>cases hc; cases hx; exact .int _ _
      | j + 2=>cases hc
     refine .inl ⟨f,#[],rfl,fun w=>ht.enter _ w,?_⟩
     show Calls P f #[.func (.func fk) #[] karr] w _
     cases hc:cv _ (.fn fk caps) [] h tripE with
     | none=>rw [hc] at hk; cases hk
     | some p=>
       obtain ⟨x0,u0,h0⟩:=p
       rw [hc] at hk
       simp only [Option.bind_some] at hk
       split at hk
       ·split at hk
        ·rename_i hfit
         cases hk
         refine (ht.ok fk karr u0 Q hfit (hen _ _ hc) w fun w1 hb hlt=>((below _ _ hc w1 hb hlt).2).mono ?_).mono ?_
         ·rintro e w' ⟨g',a1,a2,y,rfl,hy⟩
          have:=ht.shape _ _ _ _ _ hfit hy
          subst this
          exact ⟨rfl,a2.k _ (.inr (.inl rfl)),a2.k _ (.inr (.inr rfl)),a2.size,mkQ w1 w' g' hb a1 a2⟩
         ·rintro e w' ⟨rfl,w2,hq,hex⟩
          exact fin 0 u0 _ w2 w' (fun h g w=>ht.rep h g w u0 hfit) hq hex
        ·cases hk
       ·rename_i t ee
        split at hk
        ·rename_i ht'
         subst ht'
         cases hk
         refine (ht.err fk karr ee Q (hen _ _ hc) w fun w1 hb hlt=>((below _ _ hc w1 hb hlt).2).mono ?_).mono ?_
         ·rintro e w' ⟨g',a1,a2,y,rfl,hy⟩
          cases hy with
          | ifc _ _ y hy=>
            cases hy with
            | agg _ arr hl' hr'=>
              have hsz:arr.size=1:=hl'.symm
              have e0:=rep_int (hr' 0 _ arr[0] rfl (by simp))
              have:arr=#[.int .i64 ee]:=by
               obtain ⟨l⟩:=arr
               match l,hsz with
               | [q],_=>simp at e0; rw [e0]
              subst this
              exact ⟨rfl,a2.k _ (.inr (.inl rfl)),a2.k _ (.inr (.inr rfl)),a2.size,mkQ w1 w' g' hb a1 a2⟩
         ·rintro e w' ⟨rfl,w2,hq,hex⟩
          exact fin ee zero _ w2 w' ht.repz hq hex
        ·cases hk
       ·cases hk
  ·cases hk
def fitI:AVal→Bool
 | .int .i64 _=>true
 | _=>false
def valI:AVal→Value
 | .int k n=>.int k n
 | _=>.int .i64 0
theorem fitried_tried:Tried2Ok Try.prog 54 117 fitI valI (.int .i64 0) (.int .i64 0) where
 shape:=fun h g w u z hu hr=>by
  unfold fitI at hu
  split at hu
  ·exact rep_int hr
  ·cases hu
 rep:=fun h g w u hu=>by
  unfold fitI at hu
  split at hu
  ·exact .int _ _
  ·cases hu
 repz:=fun h g w=>.int _ _
 enter:=fun args w=>by kernel_rfl
 ok:=fun K caps u Q hu he w h=>by
  unfold fitI at hu
  split at hu
  ·exact fitried_ok K caps _ Q he w h
  ·cases hu
 err:=fun K caps c Q he w h=>fitried_err K caps c Q he w h
noncomputable def fsD:FuncId→Option Fsp:=fun g=>
 fsC g
theorem fsD_ok:FsOk fsD:=
 fsC_ok
noncomputable def spB:FuncId→Option (Cv→Cv):=fun g=>
 if g=54 then some (tried2S fxm fitI (.int .i64 0)) else
 spA g
theorem spB_ok:SpOk spB:=
 sp_cons (fun cv h caps=>tried2_at fitried_tried cv h caps) <|
 spA_ok
/-! Closures that are called in regions that draw their order. -/
noncomputable def fsE:FuncId→Option Fsp:=fun g=>
 fsD g
theorem fsE_ok:FsOk fsE:=
 fsD_ok
/-! Sums and differences of spots. -/
/-! Within. -/
/-! Unit. -/
def fitT {α:Type} (neg:Bool) (n:Int) (k:AOut→Option α):Option α:=bif fxB n then k (i2 (sg neg n) 0) else k (i2 0 4)
theorem fitT_eq {α:Type} (neg:Bool) (n:Int) (k:AOut→Option α):fitT neg n k=k (i2 (fxV neg n) (fxE n)):=by
 unfold fitT fxV fxE; cases fxB n<;>rfl
/-! Times. -/
/-! Dot. -/
/-! Scale. -/
def slP (a n d how:Int):Int:=rndP how (scG a n d) (ab a * ab n) (ab d)
def slOk (a n d:Int):Bool:=okB a&&(rateB n&&rateB d)
def slV (a n d how:Int):Int:=bif slOk a n d then (bif d==0 then 0 else fxV (scG a n d) (slP a n d how)) else 0
def slE (a n d how:Int):Int:=bif slOk a n d then (bif d==0 then 10 else fxE (slP a n d how)) else 2
def scaleS:Fsp:=fun _ args k=>match args with
 | [.int .i64 a,.int .i64 n,.int .i64 d,.int .i64 how]=>bif wayB how then k (i2 (slV a n d how) (slE a n d how)) else none
 | _=>none
def scaleText {α:Type} (x u v how:Int) (k:AOut→Option α):Option α:=
 bif [x].all okB then
  bif decide (u ≥ -2147483648) then
   bif decide (u≤2147483648) then
    bif decide (v ≥ -2147483648) then
     bif !(decide (v≤2147483648)) then k (i2 0 2)
     else
      bif !(v != 0) then k (i2 0 10)
      else
       bif i6 x then
        bif i6 u then
         bif wB (ab x)&&wB (ab u) then
          bif i6 v then
           bif wB (hiW (ab x * ab u))&&wB (loW (ab x * ab u))&&wB (ab v)&&decide (0 < ab v) then
            fitT (!(decide (x < 0)==!(decide (u < 0)==decide (v < 0)))) (rndP how (!(decide (x < 0)==!(decide (u < 0)==decide (v < 0)))) (vw (hiW (ab x * ab u)) (loW (ab x * ab u))) (ab v)) k
           else none
          else none
         else none
        else none
       else none
    else k (i2 0 2)
   else k (i2 0 2)
  else k (i2 0 2)
 else k (i2 0 2)
theorem rate_ok {n:Int} (h:rateB n=true):okB n=true:=by rw [rate_iff] at h; rw [ok_iff]; omega
theorem scale_fin {α:Type} (x u v how:Int) (k:AOut→Option α):scaleText x u v how k=k (i2 (slV x u v how) (slE x u v how)):=by
 unfold scaleText slV slE slOk
 rw [all1]
 cases hx:okB x
 ·rfl
 ·have r1:rateB u=(decide (u ≥ -2147483648)&&decide (u≤2147483648)):=rfl
  have r2:rateB v=(decide (v ≥ -2147483648)&&decide (v≤2147483648)):=rfl
  cases hu:rateB u
  ·rw [hu] at r1
   cases h1:decide (u ≥ -2147483648)
   ·rfl
   ·rw [h1,Bool.true_and] at r1
    rw [← r1]; rfl
  ·rw [hu] at r1
   have r1:=Bool.and_eq_true_iff.1 r1.symm
   rw [r1.1,r1.2]
   cases hv:rateB v
   ·rw [hv] at r2
    cases h1:decide (v ≥ -2147483648)
    ·rfl
    ·rw [h1,Bool.true_and] at r2
     rw [← r2]; rfl
   ·rw [hv] at r2
    have r2:=Bool.and_eq_true_iff.1 r2.symm
    rw [r2.1,r2.2]
    by_cases hz:v=0
    ·subst hz; rfl
    ·have hu':=rate_ok hu
     have hv':=rate_ok hv
     have p:=ab_mul_in hx hu'
     have hav:0 < ab v:=by unfold ab; split<;>omega
     have hb:(v != 0)=true:=by simp [hz]
     have hb2:(v==0)=false:=by simp [hz]
     simp only [hb,hb2,i6_ok hx,i6_ok hu',i6_ok hv',wB_ab (i6_ok hx),wB_ab (i6_ok hu'),wB_ab (i6_ok hv'),lo_wB,vw_hl,hi_wB (show 0≤ab x * ab u∧ab x * ab u < _ from ⟨p.1,by omega⟩),decide_eq_true hav,Bool.and_self,cond_true,cond_false,Bool.not_true]
     rw [fitT_eq]
     rfl
theorem scale0_text (N n:Nat) (α:Type) (x u v:Int) (k:AOut→Option α):evFn real tab ((twT fsE spB).env real tab N (n + 6)) N Try.f53 α [iN x,iN u,iN v,iN 0] k=scaleText x u v 0 k:=by kernel_rfl
theorem scale1_text (N n:Nat) (α:Type) (x u v:Int) (k:AOut→Option α):evFn real tab ((twT fsE spB).env real tab N (n + 6)) N Try.f53 α [iN x,iN u,iN v,iN 1] k=scaleText x u v 1 k:=by kernel_rfl
theorem scale2_text (N n:Nat) (α:Type) (x u v:Int) (k:AOut→Option α):evFn real tab ((twT fsE spB).env real tab N (n + 6)) N Try.f53 α [iN x,iN u,iN v,iN 2] k=scaleText x u v 2 k:=by kernel_rfl
theorem scale3_text (N n:Nat) (α:Type) (x u v:Int) (k:AOut→Option α):evFn real tab ((twT fsE spB).env real tab N (n + 6)) N Try.f53 α [iN x,iN u,iN v,iN 3] k=scaleText x u v 3 k:=by kernel_rfl
theorem scaleS_ok:FspOk Try.prog 53 scaleS:=tower_S fsE_ok spB_ok ⟨Try.func53,fun _ _=>by kernel_rfl⟩ (by intro α args k; unfold scaleS; split<;>simp only [cond_bind,Option.bind_some,Option.bind_none]) fun args out hs h=>by
 unfold scaleS at h
 split at h
 ·rename_i x u v how
  cases hw:wayB how
  ·rw [hw] at h; cases h
  ·rw [hw,cond_true] at h
   rcases way_cases hw with rfl | rfl | rfl | rfl
   ·exact ⟨8,6,(scale0_text 8 0 AOut x u v some).trans ((scale_fin ..).trans h)⟩
   ·exact ⟨8,6,(scale1_text 8 0 AOut x u v some).trans ((scale_fin ..).trans h)⟩
   ·exact ⟨8,6,(scale2_text 8 0 AOut x u v some).trans ((scale_fin ..).trans h)⟩
   ·exact ⟨8,6,(scale3_text 8 0 AOut x u v some).trans ((scale_fin ..).trans h)⟩
 ·cases h
noncomputable def fsF:FuncId→Option Fsp:=fun g=>
 if g=53 then some scaleS else
 fsE g
theorem fsF_ok:FsOk fsF:=
 fs_cons scaleS_ok <|
 fsE_ok
noncomputable def spC:FuncId→Option (Cv→Cv):=fun g=>
 spB g
theorem spC_ok:SpOk spC:=
 spB_ok
section
variable {X α σ:Type}
theorem any_rangeX (xs:List X) (d:X) (q:X→Bool):((List.range xs.length).any fun i=>q (xs.getD i d))=xs.any q:=by
 rw [Bool.eq_iff_iff,List.any_eq_true,List.any_eq_true]
 constructor
 ·rintro ⟨i,hi,hq⟩
  have hlt:=List.mem_range.1 hi
  rw [List.getD_eq_getElem?_getD,List.getElem?_eq_getElem hlt] at hq
  exact ⟨_,List.getElem_mem hlt,hq⟩
 ·rintro ⟨x,hx,hq⟩
  obtain ⟨i,hlt,rfl⟩:=List.mem_iff_getElem.1 hx
  refine ⟨i,List.mem_range.2 hlt,?_⟩
  rw [List.getD_eq_getElem?_getD,List.getElem?_eq_getElem hlt]
  exact hq
theorem count_loop {f:σ→Option (LRes σ α)} {K:Nat→σ→Option α} (st:Nat→σ) (n:Nat) {b:Nat} {y:σ} (h:∀ i,i < n→f (st i)=some (.cont (st (i + 1)))) (hend:f (st n)=some (.brk b y)) {N:Nat} (hN:n < N):afterL (iterL N f (st 0)) K=K b y:=by
 rw [iterL_count st (brk_not b y) n h hend 0 (Nat.zero_le _) N (by omega)]
 rfl
end
theorem lt_len {i n:Nat} (h:i < n):decide ((i:Int) < (n:Int))=true:=decide_eq_true (by omega)
theorem not_lt_len {n:Nat}:decide ((n:Int) < (n:Int))=false:=decide_eq_false (by omega)
theorem in_len {i n:Nat} (h:i < n):0≤(i:Int)∧(i:Int) < (n:Int):=⟨by omega,by omega⟩
theorem wrap_next {i n:Nat} (h:i < n) (hn:n≤maxLen):IntKind.i64.wrap ((i:Int) + 1)=((i + 1:Nat):Int):=wrap_small (n:=i + 1) (by omega)
end Go.Proofs.Ytneggblnfobfcaa
namespace Go.Proofs.Ytneggblnfobfcaa
section
variable {α:Type}
theorem any_from {σ:Type} {f:σ→Option (LRes σ α)} (st:Nat→σ) (p:Nat→Bool) {R E:Option (LRes σ α)} (hR:∀ y,R≠some (.cont y)) (hE:∀ y,E≠some (.cont y)) (n:Nat) (h:∀ i,i < n→f (st i)=bif p i then R else some (.cont (st (i + 1)))) (hend:f (st n)=E) :
  ∀ k m,m + k=n→∀ N,k < N→iterL N f (st m)=bif (List.range' m k).any p then R else E
 | 0,m,hm,N,hN=>by
   cases N with
   | zero=>omega
   | succ N=>
     have:m=n:=by omega
     subst this
     simp only [iterL,hend]
     simp only [List.range'_zero,List.any_nil,cond_false]
 | k + 1,m,hm,N,hN=>by
   cases N with
   | zero=>omega
   | succ N=>
     have hf:=h m (by omega)
     have ih:=any_from st p hR hE n h hend k (m + 1) (by omega) N (by omega)
     rw [List.range'_succ,List.any_cons]
     cases hp:p m
     ·rw [hp] at hf
      rw [Bool.false_or,← ih]
      conv=>lhs; unfold iterL
      rw [hf]
      rfl
     ·rw [hp] at hf
      simp only [iterL,hf,cond_true,Bool.true_or]
theorem any_loop' {σ:Type} {f:σ→Option (LRes σ α)} {K:Nat→σ→Option α} (st:Nat→σ) (n:Nat) (p:Nat→Bool) {b:Nat} {y:σ} (R:Option α) (h:∀ i,i < n→f (st i)=bif p i then finL R else some (.cont (st (i + 1)))) (hend:f (st n)=some (.brk b y)) {N:Nat} (hN:n < N):afterL (iterL N f (st 0)) K=bif (List.range n).any p then R else K b y:=by
 rw [any_from st p (fin_not R) (brk_not b y) n h hend n 0 (by omega) N hN,← List.range_eq_range']
 cases (List.range n).any p
 ·rfl
 ·cases R<;>rfl
end
open Go.RowKit
inductive Ren (σ:Nat→Nat) (I:Nat→Prop):AVal→AVal→Prop where
 | flat (v:AVal):v.pure0=true→Ren σ I v v
 | op (i off:Nat):I i→Ren σ I (.op i off) (.op (σ i) off)
 | own (i:Nat):I i→Ren σ I (.own i) (.own (σ i))
 | fn (f:FuncId) (cs ds:List AVal):cs.length=ds.length→(∀ (j:Nat) c d,cs[j]?=some c→ds[j]?=some d→Ren σ I c d)→Ren σ I (.fn f cs) (.fn f ds)
 | agg (cs ds:List AVal):cs.length=ds.length→(∀ (j:Nat) c d,cs[j]?=some c→ds[j]?=some d→Ren σ I c d)→Ren σ I (.agg cs) (.agg ds)
theorem Ren.scalar {σ I c d} (r:Ren σ I c d):d.scalar=c.scalar:=by
 cases r<;>rfl
structure Sub (σ:Nat→Nat) (I:Nat→Prop) (hs h:List ABlk):Prop where
 inj:∀ i j,I i→I j→σ i=σ j→i=j
 blk:∀ i,I i→(∃ wr cs ds,hs[i]?=some (ABlk.box wr cs)∧h[σ i]?=some (ABlk.box wr ds)∧cs.length=ds.length∧∀ (j:Nat) c d,cs[j]?=some c→ds[j]?=some d→Ren σ I c d)∨(∃ wr t e xs,hs[i]?=some (ABlk.row wr t e xs)∧h[σ i]?=some (ABlk.row wr t e xs))
theorem Sub.here {σ:Nat→Nat} {I:Nat→Prop} {hs h:List ABlk} (S:Sub σ I hs h) {i:Nat} (hi:I i):Here hs i∧Here h (σ i)∧alive hs i∧alive h (σ i):=by
 rcases S.blk i hi with ⟨wr,cs,ds,a,b,_⟩ | ⟨wr,t,e,xs,a,b⟩
 ·exact ⟨Here.of a (by simp),Here.of b (by simp),⟨_,a,by simp⟩,⟨_,b,by simp⟩⟩
 ·exact ⟨Here.of a (by simp),Here.of b (by simp),⟨_,a,by simp⟩,⟨_,b,by simp⟩⟩
theorem ren_down {σ:Nat→Nat} {I:Nat→Prop} {hs h:List ABlk} (S:Sub σ I hs h) {g gs:Gh} {w:World} (hρ:∀ i,I i→gs.ρ i=g.ρ (σ i)) (hM:∀ b,g.M b→gs.M b) {c d:AVal} (r:Ren σ I c d):∀ {v:Value},Rep h g w d v→Rep hs gs w c v:=by
 induction r with
 | flat v hp=>exact fun r=>pure_rep hM r hp
 | op i off hi=>
   intro v r
   cases r with
   | op _ _ _ a1 a2 a3=>
     refine .op i off v (S.here hi).1 a2 fun wr cs hb=>?_
     rcases S.blk i hi with ⟨wr',cs',ds,e1,e2,_⟩ | ⟨wr',t,e,xs,e1,e2⟩
     ·rw [hρ i hi]; exact a3 _ _ e2
     ·rw [e1] at hb; cases hb
 | own i hi=>
   intro v r
   cases r with
   | own _ _ a1 a2 a3=>
     refine .own i v (S.here hi).1 a2 fun wr t e xs hb=>?_
     rcases S.blk i hi with ⟨wr',cs',ds,e1,e2,_⟩ | ⟨wr',t,e,xs,e1,e2⟩
     ·rw [e1] at hb; cases hb
     ·rw [hρ i hi]; exact a3 _ _ _ _ e2
 | fn f cs ds hl _ ih=>
   intro v r
   cases r with
   | fn _ _ arr a1 a2=>
     refine .fn f cs arr (hl.trans a1) fun j c x hc hx=>?_
     have hj:j < ds.length:=by rw [← hl]; exact (List.getElem?_eq_some_iff.1 hc).1
     exact ih j c _ hc (List.getElem?_eq_getElem hj) (a2 j _ x (List.getElem?_eq_getElem hj) hx)
 | agg cs ds hl _ ih=>
   intro v r
   cases r with
   | agg _ arr a1 a2=>
     refine .agg cs arr (hl.trans a1) fun j c x hc hx=>?_
     have hj:j < ds.length:=by rw [← hl]; exact (List.getElem?_eq_some_iff.1 hc).1
     exact ih j c _ hc (List.getElem?_eq_getElem hj) (a2 j _ x (List.getElem?_eq_getElem hj) hx)
theorem ren_up {σ:Nat→Nat} {I:Nat→Prop} {hs h:List ABlk} (S:Sub σ I hs h) {g gs:Gh} {w:World} (hρ:∀ i,I i→gs.ρ i=g.ρ (σ i)) (hM:∀ b,gs.M b→g.M b) {c d:AVal} (r:Ren σ I c d):∀ {v:Value},Rep hs gs w c v→Rep h g w d v:=by
 induction r with
 | flat v hp=>exact fun r=>pure_rep hM r hp
 | op i off hi=>
   intro v r
   cases r with
   | op _ _ _ a1 a2 a3=>
     refine .op (σ i) off v (S.here hi).2.1 a2 fun wr cs hb=>?_
     rcases S.blk i hi with ⟨wr',cs',ds,e1,e2,_⟩ | ⟨wr',t,e,xs,e1,e2⟩
     ·rw [← hρ i hi]; exact a3 _ _ e1
     ·rw [e2] at hb; cases hb
 | own i hi=>
   intro v r
   cases r with
   | own _ _ a1 a2 a3=>
     refine .own (σ i) v (S.here hi).2.1 a2 fun wr t e xs hb=>?_
     rcases S.blk i hi with ⟨wr',cs',ds,e1,e2,_⟩ | ⟨wr',t,e,xs,e1,e2⟩
     ·rw [e2] at hb; cases hb
     ·rw [← hρ i hi]; exact a3 _ _ _ _ e1
 | fn f cs ds hl _ ih=>
   intro v r
   cases r with
   | fn _ _ arr a1 a2=>
     refine .fn f ds arr (hl.symm.trans a1) fun j d x hd hx=>?_
     have hj:j < cs.length:=by rw [hl]; exact (List.getElem?_eq_some_iff.1 hd).1
     exact ih j _ d (List.getElem?_eq_getElem hj) hd (a2 j _ x (List.getElem?_eq_getElem hj) hx)
 | agg cs ds hl _ ih=>
   intro v r
   cases r with
   | agg _ arr a1 a2=>
     refine .agg ds arr (hl.symm.trans a1) fun j d x hd hx=>?_
     have hj:j < cs.length:=by rw [hl]; exact (List.getElem?_eq_some_iff.1 hd).1
     exact ih j _ d (List.getElem?_eq_getElem hj) hd (a2 j _ x (List.getElem?_eq_getElem hj) hx)
def KSub (K:Nat→Prop) (σ:Nat→Nat) (I:Nat→Prop) (h:List ABlk) (g:Gh) (b:Nat):Prop:=K b∨∃ j,alive h j∧(∀ i,I i→σ i≠j)∧blockOf (g.ρ j)=some b
theorem sub_st {K h g w σ I hs} (s:St K h g w) (hn:∀ i,i < hs.length→I i) (S:Sub σ I hs h):St (KSub K σ I h g) hs ⟨fun i=>g.ρ (σ i),g.M⟩ w where
 blk:=fun i B hB=>by
  have hi:I i:=hn i (List.getElem?_eq_some_iff.1 hB).1
  rcases S.blk i hi with ⟨wr,cs,ds,e1,e2,hl,hr⟩ | ⟨wr,t,e,xs,e1,e2⟩
  ·rw [e1] at hB; cases hB
   obtain ⟨b,arr,t,q1,q2,q3,q4⟩:=s.blk (σ i) _ e2
   refine ⟨b,arr,t,q1,q2,q3.trans hl.symm,fun j c x hc hx=>?_⟩
   have hj:j < ds.length:=by rw [← hl]; exact (List.getElem?_eq_some_iff.1 hc).1
   have rr:=hr j c _ hc (List.getElem?_eq_getElem hj)
   obtain ⟨z1,z2⟩:=q4 j _ x (List.getElem?_eq_getElem hj) hx
   exact ⟨by rw [← rr.scalar]; exact z1,ren_down S (g:=g) (gs:=⟨fun i=>g.ρ (σ i),g.M⟩) (fun _ _=>rfl) (fun _ h=>h) rr z2⟩
  ·rw [e1] at hB; cases hB
   have:=s.blk (σ i) _ e2
   exact RowOk.same this fun _ h=>h
 inj:=fun i j b hi hj h1 h2=>by
  have hi':I i:=by obtain ⟨B,hB,_⟩:=hi; exact hn i (List.getElem?_eq_some_iff.1 hB).1
  have hj':I j:=by obtain ⟨B,hB,_⟩:=hj; exact hn j (List.getElem?_eq_some_iff.1 hB).1
  exact S.inj i j hi' hj' (s.inj _ _ b (S.here hi').2.2.2 (S.here hj').2.2.2 h1 h2)
 sep:=fun i b hi hb=>by
  have hi':I i:=by obtain ⟨B,hB,_⟩:=hi; exact hn i (List.getElem?_eq_some_iff.1 hB).1
  obtain ⟨z1,z2,z3⟩:=s.sep (σ i) b (S.here hi').2.2.2 hb
  refine ⟨fun hk=>?_,z2,z3⟩
  rcases hk with hk | ⟨j,hj,hne,hb'⟩
  ·exact z1 hk
  ·exact hne i hi' (s.inj _ _ b (S.here hi').2.2.2 hj hb hb')
 low:=s.low
 klow:=fun b hk=>by
  rcases hk with hk | ⟨j,hj,_,hb⟩
  ·exact s.klow b hk
  ·exact (s.sep j b hj hb).2.2
theorem sub_post {K h g w σ I hs σ' J hs1 h1 u e w1} {q:Nat} (s:St K h g w) (S0:Sub σ I hs h) (S1:Sub σ' J hs1 h1)
  (hq:J q∧σ' q=h.length) (old:∀ i,J i→i=q∨(I i∧σ' i=σ i)) (hl:h1.length=h.length + 1) (off:∀ j,j < h.length→(∀ i,I i→σ i≠j)→h1[j]?=h[j]?)
  (dead:∀ i,I i→¬ (J i∧i≠q)→h1[σ i]?=some ABlk.dead)
  (hb:∀ i,I i→∀ cs,h[σ i]?=some (ABlk.box false cs)→h1[σ i]?=some (ABlk.box false cs)) (hr:∀ i,I i→∀ t e xs,h[σ i]?≠some (ABlk.row false t e xs)) (hu:Ren σ' J u u)
  (p:CvPost (KSub K σ I h g) hs ⟨fun i=>g.ρ (σ i),g.M⟩ w hs1 .normal u e w1):CvPost K h g w h1 .normal u e w1:=by
 obtain ⟨g1,s1,l1,z,rfl,hz⟩:=p
 let g2:Gh:=⟨fun j=>if j=h.length then g1.ρ q else g.ρ j,g1.M⟩
 have g2l:∀ j,j < h.length→g2.ρ j=g.ρ j:=fun j hj=>if_neg (by omega)
 have σlt:∀ i,I i→σ i < h.length:=fun i hi=>by
  obtain ⟨B,hB,_⟩:=(S0.here hi).2.1
  exact (List.getElem?_eq_some_iff.1 hB).1
 have kept:∀ i,J i→i≠q→I i∧σ' i=σ i:=fun i hi hne=>(old i hi).resolve_left hne
 have hρ:∀ i,J i→g1.ρ i=g2.ρ (σ' i):=fun i hi=>by
  by_cases e:i=q
  ·subst e; rw [hq.2]; exact (if_pos rfl).symm
  ·obtain ⟨hI,hσ⟩:=kept i hi e
   rw [hσ,g2l _ (σlt i hI)]
   rcases S1.blk i hi with ⟨wr,cs,ds,e1,e2,_⟩ | ⟨wr,t,e,xs,e1,e2⟩
   ·obtain ⟨_,_,_,_,r⟩:=l1.box i wr cs (S0.here hI).1 e1
    exact r
   ·obtain ⟨_,_,_,_,r⟩:=l1.row i wr t e xs (S0.here hI).1 e1
    exact r
 have on:∀ j,(∃ i,I i∧σ i=j)∨∀ i,I i→σ i≠j:=fun j=>by
  by_cases hx:∃ i,I i∧σ i=j
  ·exact .inl hx
  ·exact .inr fun i hi e=>hx ⟨i,hi,e⟩
 have cls:∀ j,alive h1 j→(∃ i,J i∧σ' i=j∧alive hs1 i)∨(alive h j∧j < h.length∧∀ i,I i→σ i≠j):=fun j hj=>by
  obtain ⟨B,hB,hd⟩:=hj
  have hlt:j < h.length + 1:=by rw [← hl]; exact (List.getElem?_eq_some_iff.1 hB).1
  by_cases e:j=h.length
  ·exact .inl ⟨q,hq.1,by rw [hq.2,e],(S1.here hq.1).2.2.1⟩
  ·rcases on j with ⟨i,hi,rfl⟩ | hne
   ·by_cases hk:J i∧i≠q
    ·exact .inl ⟨i,hk.1,(kept i hk.1 hk.2).2,(S1.here hk.1).2.2.1⟩
    ·rw [dead i hi hk] at hB
     exact absurd (Option.some.inj hB).symm hd
   ·exact .inr ⟨⟨B,by rw [← off j (by omega) hne]; exact hB,hd⟩,by omega,hne⟩
 have le:Le K h g w h1 g2 w1:={
  len:=by omega
  here:=fun j hj=>by
   have hjl:=hj.lt
   rcases on j with ⟨i,hi,rfl⟩ | hne
   ·by_cases hk:J i∧i≠q
    ·rw [← (kept i hk.1 hk.2).2]; exact (S1.here hk.1).2.1
    ·exact ⟨_,dead i hi hk,by simp⟩
   ·obtain ⟨B,hB,hd⟩:=hj
    exact ⟨B,by rw [off j hjl hne]; exact hB,hd⟩
  m:=l1.m
  new:=fun b hb=>(l1.new b hb).elim .inl fun hk=>.inr fun h=>hk (.inl h)
  mw:=l1.mw
  k:=fun b hk=>l1.k b (.inl hk)
  box:=fun j wr cs' hj hx=>by
   have hjl:=hj.lt
   rcases on j with ⟨i,hi,rfl⟩ | hne
   ·by_cases hk:J i∧i≠q
    ·have hσ:=(kept i hk.1 hk.2).2
     rcases S1.blk i hk.1 with ⟨wr1,cs1,ds1,e1,e2,q1,_⟩ | ⟨wr1,t,e,xs,e1,e2⟩
     ·rw [hσ,hx] at e2; cases e2
      obtain ⟨wr0,cs0,f1,f2,_⟩:=l1.box i _ cs1 (S0.here hi).1 e1
      rcases S0.blk i hi with ⟨wr2,cs2,ds2,k1,k2,k3,_⟩ | ⟨wr2,t,e,xs,k1,k2⟩
      ·rw [f1] at k1; cases k1
       exact ⟨_,_,k2,by omega,g2l _ hjl⟩
      ·rw [f1] at k1; cases k1
     ·rw [hσ,hx] at e2; cases e2
    ·rw [dead i hi hk] at hx; cases hx
   ·rw [off j hjl hne] at hx
    exact ⟨_,_,hx,rfl,g2l _ hjl⟩
  row:=fun j wr t e xs' hj hx=>by
   have hjl:=hj.lt
   rcases on j with ⟨i,hi,rfl⟩ | hne
   ·by_cases hk:J i∧i≠q
    ·have hσ:=(kept i hk.1 hk.2).2
     rcases S1.blk i hk.1 with ⟨wr1,cs1,ds1,e1,e2,q1,_⟩ | ⟨wr1,t1,ee,xs,e1,e2⟩
     ·rw [hσ,hx] at e2; cases e2
     ·rw [hσ,hx] at e2; cases e2
      obtain ⟨wr0,xs0,f1,f2,_⟩:=l1.row i _ _ _ _ (S0.here hi).1 e1
      rcases S0.blk i hi with ⟨wr2,cs2,ds2,k1,k2,_⟩ | ⟨wr2,t2,e2',xs2,k1,k2⟩
      ·rw [f1] at k1; cases k1
      ·rw [f1] at k1; cases k1
       exact ⟨_,_,k2,f2,g2l _ hjl⟩
    ·rw [dead i hi hk] at hx; cases hx
   ·rw [off j hjl hne] at hx
    exact ⟨_,_,hx,fun _=>rfl,g2l _ hjl⟩
  lp:=fun j st pend ts ps aw bo hj hx=>by
   have hjl:=hj.lt
   rcases on j with ⟨i,hi,rfl⟩ | hne
   ·by_cases hk:J i∧i≠q
    ·have hσ:=(kept i hk.1 hk.2).2
     rcases S1.blk i hk.1 with ⟨wr1,cs1,ds1,e1,e2,_⟩ | ⟨wr1,t1,ee,xs,e1,e2⟩
     ·rw [hσ,hx] at e2; cases e2
     ·rw [hσ,hx] at e2; cases e2
    ·rw [dead i hi hk] at hx; cases hx
   ·rw [off j hjl hne] at hx
    exact ⟨_,_,hx,g2l _ hjl⟩
  lockb:=fun j cs hx=>by
   rcases on j with ⟨i,hi,rfl⟩ | hne
   ·exact hb i hi _ hx
   ·rw [off j (List.getElem?_eq_some_iff.1 hx).1 hne]; exact hx
  lockr:=fun j t e xs hx=>by
   rcases on j with ⟨i,hi,rfl⟩ | hne
   ·exact absurd hx (hr i hi _ _ _)
   ·rw [off j (List.getElem?_eq_some_iff.1 hx).1 hne]; exact hx
  os:=l1.os
  tape:=l1.tape
  output:=l1.output
  size:=l1.size }
 refine ⟨g2,?_,le,z,rfl,ren_up S1 (g:=g2) (gs:=g1) hρ (fun _ h=>h) hu hz⟩
 have part:∀ i,J i→∀ B,h1[σ' i]?=some B→BlkOk h1 g2 w1 (σ' i) B:=fun i hi B hB=>by
  rcases S1.blk i hi with ⟨wr,cs,ds,e1,e2,q1,q2⟩ | ⟨wr,t,e,xs,e1,e2⟩
  ·rw [e2] at hB; cases hB
   obtain ⟨b,arr,t,f1,f2,f3,f4⟩:=s1.blk i _ e1
   refine ⟨b,arr,t,by rw [← hρ i hi]; exact f1,f2,f3.trans q1,fun k d x hd hx=>?_⟩
   have hk:k < cs.length:=by rw [q1]; exact (List.getElem?_eq_some_iff.1 hd).1
   have rr:=q2 k _ d (List.getElem?_eq_getElem hk) hd
   obtain ⟨z1,z2⟩:=f4 k _ x (List.getElem?_eq_getElem hk) hx
   exact ⟨by rw [rr.scalar]; exact z1,ren_up S1 (g:=g2) (gs:=g1) hρ (fun _ h=>h) rr z2⟩
  ·rw [e2] at hB; cases hB
   have:=s1.blk i _ e1
   show RowOk h1 g2 w1 (g2.ρ (σ' i)) t e xs
   rw [← hρ i hi]
   exact RowOk.same this fun _ h=>h
 exact {
  blk:=fun j B hB=>by
   have hlt:j < h.length + 1:=by rw [← hl]; exact (List.getElem?_eq_some_iff.1 hB).1
   by_cases e:j=h.length
   ·subst e
    rw [← hq.2] at hB ⊢
    exact part q hq.1 B hB
   ·rcases on j with ⟨i,hi,rfl⟩ | hne
    ·by_cases hk:J i∧i≠q
     ·have hσ:=(kept i hk.1 hk.2).2
      rw [← hσ] at hB ⊢
      exact part i hk.1 B hB
     ·rw [dead i hi hk] at hB; cases hB; trivial
    ·rw [off j (by omega) hne] at hB
     have o:=s.blk j B hB
     exact o.mono le (g2l _ (by omega)) fun n hd hn=>l1.k n (.inr ⟨j,⟨B,hB,hd⟩,hne,hn⟩)
  inj:=fun i j b hi hj h1' h2'=>by
   rcases cls i hi with ⟨i0,a1,rfl,a3⟩ | ⟨a1,a2,a3⟩
   ·rcases cls j hj with ⟨j0,b1',rfl,b3⟩ | ⟨b1',b2,b3⟩
    ·rw [s1.inj i0 j0 b a3 b3 (by rw [hρ i0 a1]; exact h1') (by rw [hρ j0 b1']; exact h2')]
    ·exact absurd (.inr ⟨j,b1',b3,by rw [← g2l j b2]; exact h2'⟩) (s1.sep i0 b a3 (by rw [hρ i0 a1]; exact h1')).1
   ·rcases cls j hj with ⟨j0,b1',rfl,b3⟩ | ⟨b1',b2,b3⟩
    ·exact absurd (.inr ⟨i,a1,a3,by rw [← g2l i a2]; exact h1'⟩) (s1.sep j0 b b3 (by rw [hρ j0 b1']; exact h2')).1
    ·exact s.inj i j b a1 b1' (by rw [← g2l i a2]; exact h1') (by rw [← g2l j b2]; exact h2')
  sep:=fun j b hj hb'=>by
   rcases cls j hj with ⟨i,a1,rfl,a3⟩ | ⟨a1,a2,a3⟩
   ·obtain ⟨z1,z2,z3⟩:=s1.sep i b a3 (by rw [hρ i a1]; exact hb')
    exact ⟨fun hk=>z1 (.inl hk),z2,z3⟩
   ·rw [g2l j a2] at hb'
    obtain ⟨z1,z2,z3⟩:=s.sep j b a1 hb'
    refine ⟨z1,fun hm=>?_,Nat.lt_of_lt_of_le z3 l1.size⟩
    rcases l1.new b hm with hm | hk
    ·exact z2 hm
    ·exact hk (.inr ⟨j,a1,a3,hb'⟩)
  low:=s1.low
  klow:=fun b hk=>Nat.lt_of_lt_of_le (s.klow b hk) l1.size }
abbrev HpSh:Sh:=.recd (.cons (.int .i64) (.cons (.int .i64) .nil))
abbrev GsSh:Sh:=.recd (.cons (.int .i64) (.cons (.int .i64) (.cons (.int .i64) .nil)))
def hmB (t:Int):Bool:=t==0 || t==1
def clL (x:Int):Int:=if -96 < (if x < 96 then x else 96) then (if x < 96 then x else 96) else -96
def nxE (e:Int):Int:=IntKind.i64.wrap (e - 1)
def nxL (l t p:Int):Int:=clL (IntKind.i64.wrap (l + IntKind.i64.wrap ((bif t==0 then 1 else -1) * p)))
def nxT (t p:Int):Int:=bif decide (p > 0) then IntKind.i64.wrap (1 - t) else t
def nxA (e l t:Int):AVal:=.agg [.int .i64 e,.int .i64 l,.int .i64 t]
theorem knx_text (N n0:Nat) (α:Type) (e l t p:Int) (k:AOut→Option α):evFn real tab ((twY fsF spC).env real tab N (n0 + 12)) N Try.f18 α [.agg [.int .i64 e,.int .i64 l,.int .i64 t],.int .i64 p] k =
 if 0≤t∧t < ((2:Nat):Int) then bif t==((0:Nat):Int) then bif decide (p > 0) then k (.ret (nxA (nxE e) (clL (IntKind.i64.wrap (l + IntKind.i64.wrap (1 * p))))
 (IntKind.i64.wrap (1 - t)))) else k (.ret (nxA (nxE e) (clL (IntKind.i64.wrap (l + IntKind.i64.wrap (1 * p)))) t)) else bif t==((0 + 1:Nat):Int) then bif decide (p > 0) then k
 (.ret (nxA (nxE e) (clL (IntKind.i64.wrap (l + IntKind.i64.wrap (-1 * p)))) (IntKind.i64.wrap (1 - t)))) else k (.ret (nxA (nxE e) (clL (IntKind.i64.wrap (l + IntKind.i64.wrap (-1 *
 p)))) t)) else none else none:=by kernel_rfl
theorem knx_plain {α:Type} (e l t p:Int) (ht:hmB t=true) (k:AOut→Option α):(if 0≤t∧t < ((2:Nat):Int) then
  bif t==((0:Nat):Int) then bif decide (p > 0) then k (.ret (nxA (nxE e) (clL (IntKind.i64.wrap (l + IntKind.i64.wrap (1 * p)))) (IntKind.i64.wrap (1 - t)))) else k (.ret (nxA (nxE e) (clL (IntKind.i64.wrap (l + IntKind.i64.wrap (1 * p)))) t))
  else bif t==((0 + 1:Nat):Int) then bif decide (p > 0) then k (.ret (nxA (nxE e) (clL (IntKind.i64.wrap (l + IntKind.i64.wrap (-1 * p)))) (IntKind.i64.wrap (1 - t)))) else k (.ret (nxA (nxE e) (clL (IntKind.i64.wrap (l + IntKind.i64.wrap (-1 * p)))) t))
  else none
 else none)=k (.ret (nxA (nxE e) (nxL l t p) (nxT t p))):=by
 unfold hmB at ht
 rw [Bool.or_eq_true,beq_iff_eq,beq_iff_eq] at ht
 unfold nxL nxT
 rcases ht with rfl | rfl
 ·rw [if_pos (by omega)]
  cases decide (p > 0)<;>rfl
 ·rw [if_pos (by omega)]
  cases decide (p > 0)<;>rfl
noncomputable def knxS:Fsp:=fun _ args k=>match args with
 | [.agg [.int .i64 e,.int .i64 l,.int .i64 t],.int .i64 p]=>bif hmB t then k (.ret (nxA (nxE e) (nxL l t p) (nxT t p))) else none
 | _=>none
theorem knxS_ok:FspOk Try.prog 18 knxS:=tower_Y fsF_ok spC_ok ⟨Try.func18,fun _ _=>by kernel_rfl⟩ (by intro α args k; unfold knxS; split<;>simp only [cond_bind,Option.bind_some,Option.bind_none]) fun args out hSm hEq=>by
 unfold knxS at hEq
 split at hEq
 ·rename_i e l t p
  cases ht:hmB t
  ·rw [ht] at hEq; cases hEq
  ·rw [ht] at hEq
   exact ⟨0,12,((knx_text 0 0 AOut e l t p some).trans (knx_plain e l t p ht some)).trans hEq⟩
 ·cases hEq
def suV (b:Bool):Int:=bif b then 65536 else 0
def hpA (x y:Int):AVal:=.agg [.int .i64 x,.int .i64 y]
theorem ksu_text (N n0:Nat) (α:Type) (b:Bool) (k:AOut→Option α):evFn real tab ((twY fsF spC).env real tab N (n0 + 12)) N Try.f21 α [.bool b] k=bif b then k (.ret (hpA 65536 65536)) else k (.ret (hpA 0 0)):=by kernel_rfl
noncomputable def ksuS:Fsp:=fun _ args k=>match args with
 | [.bool b]=>k (.ret (hpA (suV b) (suV b)))
 | _=>none
theorem ksuS_ok:FspOk Try.prog 21 ksuS:=tower_Y fsF_ok spC_ok ⟨Try.func21,fun _ _=>by kernel_rfl⟩ (by intro α args k; unfold ksuS; split<;>rfl) fun args out hSm hEq=>by
 unfold ksuS at hEq
 split at hEq
 ·rename_i b
  refine ⟨0,12,(ksu_text 0 0 AOut b some).trans (Eq.trans ?_ hEq)⟩
  cases b<;>rfl
 ·cases hEq
/-! What is chosen. -/
def mxI (a b:Int):Int:=if a < b then b else a
def mnI (a b:Int):Int:=if b < a then b else a
noncomputable def kc1S:Fsp:=fun _ args k=>match args with
 | [.int .i64 a,.int .i64 b]=>k (.ret (.int .i64 (mxI a b)))
 | _=>none
noncomputable def kc2S:Fsp:=fun _ args k=>match args with
 | [.int .i64 a,.int .i64 b]=>k (.ret (.int .i64 (mnI a b)))
 | _=>none
theorem kc1_text (N n0:Nat) (α:Type) (a b:Int) (k:AOut→Option α):evFn real tab ((twY fsF spC).env real tab N (n0 + 12)) N Try.f31 α [.int .i64 a,.int .i64 b] k=k (.ret (.int .i64 (mxI a b))):=by kernel_rfl
theorem kc2_text (N n0:Nat) (α:Type) (a b:Int) (k:AOut→Option α):evFn real tab ((twY fsF spC).env real tab N (n0 + 12)) N Try.f32 α [.int .i64 a,.int .i64 b] k=k (.ret (.int .i64 (mnI a b))):=by kernel_rfl
theorem kc1S_ok:FspOk Try.prog 31 kc1S:=tower_Y fsF_ok spC_ok ⟨Try.func31,fun _ _=>by kernel_rfl⟩ (by intro α args k; unfold kc1S; split<;>rfl) fun args out hSm hEq=>by
 unfold kc1S at hEq
 split at hEq
 ·rename_i a b
  exact ⟨0,12,(kc1_text 0 0 AOut a b some).trans hEq⟩
 ·cases hEq
theorem kc2S_ok:FspOk Try.prog 32 kc2S:=tower_Y fsF_ok spC_ok ⟨Try.func32,fun _ _=>by kernel_rfl⟩ (by intro α args k; unfold kc2S; split<;>rfl) fun args out hSm hEq=>by
 unfold kc2S at hEq
 split at hEq
 ·rename_i a b
  exact ⟨0,12,(kc2_text 0 0 AOut a b some).trans hEq⟩
 ·cases hEq
noncomputable def fsK1:FuncId→Option Fsp:=fun g=>
 if g=18 then some knxS else
 if g=21 then some ksuS else
 if g=31 then some kc1S else
 if g=32 then some kc2S else
 fsF g
theorem fsK1_ok:FsOk fsK1:=
 fs_cons knxS_ok <|
 fs_cons ksuS_ok <|
 fs_cons kc1S_ok <|
 fs_cons kc2S_ok <|
 fsF_ok
def opT (t a b:Int):Int:=bif t==0 then mxI a b else mnI a b
def chN (op:Int→Int→Int) (L:List (Int × Int × Unit)):Nat→Int × Int
 | 0=>((L.getD 0 (0,0,())).1,(L.getD 0 (0,0,())).2.1)
 | i + 1=>(op (chN op L i).1 (L.getD (i + 1) (0,0,())).1,op (chN op L i).2 (L.getD (i + 1) (0,0,())).2.1)
def chX (op:Int→Int→Int) (L:List (Int × Int × Unit)):Int × Int:=chN op L (L.length - 1)
def chF {α:Type} (op:Int→Int→Int) (L:List (Int × Int × Unit)) (x:Int × Int × Int × Unit):Option (LRes (Int × Int × Int × Unit) α):=
 bif decide (x.1 < ((List.drop (Int.toNat 1) L).length:Int)) then
  if 0≤x.1∧x.1 < ((List.drop (Int.toNat 1) L).length:Int) then
   some (.cont (IntKind.i64.wrap (x.1 + 1),op x.2.1 ((List.drop (Int.toNat 1) L).getD x.1.toNat (0,0,())).1,op x.2.2.1 ((List.drop (Int.toNat 1) L).getD x.1.toNat (0,0,())).2.1,()))
  else none
 else some (.brk 0 (x.1,x.2.1,x.2.2.1,()))
def chT {α:Type} (N:Nat) (op:Int→Int→Int) (L:List (Int × Int × Unit)) (k:AOut→Option α):Option α:=
 if 0≤(0:Int)∧(0:Int) < (L.length:Int) then if 0≤(1:Int)∧(1:Int)≤(L.length:Int) then
  afterL (iterL N (chF op L) (0,(L.getD (Int.toNat 0) (0,0,())).1,(L.getD (Int.toNat 0) (0,0,())).2.1,())) fun id y=>if id=0 then k (.ret (hpA y.2.1 y.2.2.1)) else none
 else none else none
set_option maxRecDepth 100000 in
theorem kch0_text (N n0:Nat) (α:Type) (L:List (Int × Int × Unit)) (k:AOut→Option α):evFn real tab ((twY fsK1 spC).env real tab N (n0 + 12)) N Try.f23 α [.ro HpSh L,.int .i64 0] k=chT N mxI L k:=by kernel_rfl
set_option maxRecDepth 100000 in
theorem kch1_text (N n0:Nat) (α:Type) (L:List (Int × Int × Unit)) (k:AOut→Option α):evFn real tab ((twY fsK1 spC).env real tab N (n0 + 12)) N Try.f23 α [.ro HpSh L,.int .i64 1] k=chT N mnI L k:=by kernel_rfl
theorem chT_eq {α:Type} (op:Int→Int→Int) (L:List (Int × Int × Unit)) (h0:0 < L.length) (hl:L.length≤maxLen) (k:AOut→Option α):chT (L.length + 1) op L k=k (.ret (hpA (chX op L).1 (chX op L).2)):=by
 have hd:(List.drop (Int.toNat 1) L).length=L.length - 1:=List.length_drop
 have hg:∀ i,(List.drop (Int.toNat 1) L).getD i (0,0,())=L.getD (i + 1) (0,0,()):=fun i=>by
  rw [List.getD_eq_getElem?_getD,List.getD_eq_getElem?_getD,List.getElem?_drop,show Int.toNat 1 + i=i + 1 from Nat.add_comm _ _]
 unfold chT
 rw [if_pos ⟨by omega,by omega⟩,if_pos ⟨by omega,by omega⟩]
 refine (count_loop (f:=chF op L) (fun i=>((i:Int),(chN op L i).1,(chN op L i).2,())) (L.length - 1) (fun i hi=>?_) (y:=(((L.length - 1:Nat):Int),(chX op L).1,(chX op L).2,())) (b:=0) ?_ (by omega)).trans ?_
 ·unfold chF
  simp only [hd,lt_len hi,cond_true,in_len hi,if_pos,and_self,decide_true,Int.toNat_natCast,wrap_next hi (by omega),hg]
  rfl
 ·unfold chF
  simp only [hd,not_lt_len,cond_false]
  rfl
 ·rw [if_pos rfl]
def choB (L:List (Int × Int × Unit)) (t:Int):Bool:=decide (0 < L.length)&&hmB t
noncomputable def kchS:Fsp:=fun _ args k=>match args with
 | [.ro (.recd (.cons (.int .i64) (.cons (.int .i64) .nil))) L,.int .i64 t]=>bif choB L t then k (.ret (hpA (chX (opT t) L).1 (chX (opT t) L).2)) else none
 | _=>none
theorem kchS_ok:FspOk Try.prog 23 kchS:=tower_Y fsK1_ok spC_ok ⟨Try.func23,fun _ _=>by kernel_rfl⟩ (by intro α args k; unfold kchS; split<;>simp only [cond_bind,Option.bind_some,Option.bind_none]) fun args out hSm hEq=>by
 unfold kchS at hEq
 split at hEq
 ·rename_i L t
  have hl:=(hSm _ (.head _)).len
  cases hc:choB L t
  ·rw [hc] at hEq; cases hEq
  ·rw [hc] at hEq
   unfold choB at hc
   rw [Bool.and_eq_true,decide_eq_true_eq] at hc
   obtain ⟨h0,ht⟩:=hc
   unfold hmB at ht
   rw [Bool.or_eq_true,beq_iff_eq,beq_iff_eq] at ht
   rcases ht with rfl | rfl
   ·exact ⟨List.length (α:=Int × Int × Unit) L + 1,12,((kch0_text _ 0 AOut L some).trans (chT_eq mxI L h0 hl some)).trans hEq⟩
   ·exact ⟨List.length (α:=Int × Int × Unit) L + 1,12,((kch1_text _ 0 AOut L some).trans (chT_eq mnI L h0 hl some)).trans hEq⟩
 ·cases hEq
/-! Counts. -/
def cnO (n:Int):Bool:=decide (0≤n)&&decide (n≤1000000)
def cntW (c:List Int):Bool:=decide (1≤c.length)&&(decide (c.length≤49)&&!(List.range c.length).any fun i=>!cnO (c.getD i 0))
def cnF {α:Type} (c:List Int) (k:AOut→Option α) (x:Int × Unit):Option (LRes (Int × Unit) α):=
 bif decide (x.1 < (c.length:Int)) then
  if 0≤x.1∧x.1 < (c.length:Int) then
   bif decide (0≤c.getD x.1.toNat 0) then bif !decide (c.getD x.1.toNat 0≤1000000) then finL (k (b1 !decide (x.1 ≥ 0))) else some (.cont (IntKind.i64.wrap (x.1 + 1),()))
   else finL (k (b1 !decide (x.1 ≥ 0)))
  else none
 else some (.brk 0 (x.1,()))
theorem skc_text (N n0:Nat) (α:Type) (c:List Int) (k:AOut→Option α):evFn real tab ((twY fsK1 spC).env real tab N (n0 + 12)) N Try.f38 α [.ro (.int .i64) c] k =
 bif decide (1≤(c.length:Int)) then bif decide ((c.length:Int)≤49) then afterL (iterL N (cnF c k) (0,())) fun id _=>if id=0 then k (b1 !false) else none else k (b1
 false) else k (b1 false):=by kernel_rfl
theorem skc_plain {α:Type} (c:List Int) (k:AOut→Option α):(bif decide (1≤(c.length:Int)) then bif decide ((c.length:Int)≤49) then afterL (iterL 60 (cnF c k) (0,())) fun id _=>if id=0 then k (b1 !false) else none else k (b1 false) else k (b1 false))=k (b1 (cntW c)):=by
 unfold cntW
 rw [show decide (1≤(c.length:Int))=decide (1≤c.length) from decide_eq_decide.2 (by omega),show decide ((c.length:Int)≤49)=decide (c.length≤49) from decide_eq_decide.2 (by omega)]
 cases decide (1≤c.length)
 ·rfl
 by_cases h:c.length≤49
 case neg=>rw [decide_eq_false h]; rfl
 rw [decide_eq_true h,cond_true,cond_true,Bool.true_and,Bool.true_and]
 have hmx:c.length≤maxLen:=by have:maxLen=9223372036854775807:=rfl; omega
 refine (any_loop' (f:=cnF c k) (fun i:Nat=>((i:Int),())) c.length (fun i=>!cnO (c.getD i 0)) (k (b1 false)) (fun i hi=>?_) (y:=((c.length:Int),())) (b:=0) ?_ (by omega)).trans ?_
 ·unfold cnF cnO
  simp only [lt_len hi,cond_true,in_len hi,if_pos,and_self,decide_true,Int.toNat_natCast,wrap_next hi hmx]
  cases decide (0≤c.getD i 0)<;>cases decide (c.getD i 0≤1000000)<;>rfl
 ·unfold cnF
  simp only [not_lt_len,cond_false]
 ·rw [if_pos rfl]
  cases (List.range c.length).any fun i=>!cnO (c.getD i 0)<;>rfl
noncomputable def skcS:Fsp:=fun _ args k=>match args with
 | [.ro (.int .i64) c]=>k (b1 (cntW c))
 | _=>none
theorem skcS_ok:FspOk Try.prog 38 skcS:=tower_Y fsK1_ok spC_ok ⟨Try.func38,fun _ _=>by kernel_rfl⟩ (by intro α args k; unfold skcS; split<;>rfl) fun args out hSm hEq=>by
 unfold skcS at hEq
 split at hEq
 ·rename_i c
  exact ⟨60,12,((skc_text 60 0 AOut c some).trans (skc_plain c some)).trans hEq⟩
 ·cases hEq
/-! A bound of a mean. -/
def mnF {α:Type} (op:Int→Int→Int) (v:List Int) (x:Int × Int × Unit):Option (LRes (Int × Int × Unit) α):=
 bif decide (x.2.1 < (v.length:Int)) then
  if 0≤x.2.1∧x.2.1 < (v.length:Int) then some (.cont (op x.1 (v.getD x.2.1.toNat 0),IntKind.i64.wrap (x.2.1 + 1),())) else none
 else some (.brk 0 (x.1,x.2.1,()))
def toF {α:Type} (c v:List Int) (x:Int × Int × Unit):Option (LRes (Int × Int × Unit) α):=
 bif decide (x.2.1 < (c.length:Int)) then
  if 0≤x.2.1∧x.2.1 < (c.length:Int) then if 0≤x.2.1∧x.2.1 < (v.length:Int) then some (.cont (IntKind.i64.wrap (x.1 + IntKind.i64.wrap (c.getD x.2.1.toNat 0 * v.getD x.2.1.toNat 0)),IntKind.i64.wrap (x.2.1 + 1),())) else none else none
 else some (.brk 0 (x.1,x.2.1,()))
def suF {α:Type} (c:List Int) (x:Int × Int × Unit):Option (LRes (Int × Int × Unit) α):=
 bif decide (x.2.1 < (c.length:Int)) then
  if 0≤x.2.1∧x.2.1 < (c.length:Int) then some (.cont (IntKind.i64.wrap (x.1 + c.getD x.2.1.toNat 0),IntKind.i64.wrap (x.2.1 + 1),())) else none
 else some (.brk 0 (x.1,x.2.1,()))
def meT {α:Type} (N:Nat) (op:Int→Int→Int) (how:Int) (c v:List Int) (d:Int) (P:Option α) (k:AOut→Option α):Option α:=
 bif decide ((v.length:Int) < 1) then P else
 if 0≤(0:Int)∧(0:Int) < (v.length:Int) then
  afterL (iterL N (mnF op v) (v.getD (Int.toNat 0) 0,1,())) fun id x=>if id=0 then
   afterL (iterL N (toF c v) (IntKind.i64.wrap (d * x.1),0,())) fun id y=>if id=0 then
    afterL (iterL N (suF c) (0,0,())) fun id z=>if id=0 then
     if IntKind.i64.wrap (z.1 + d)=0 then none else if IntKind.i64.wrap (z.1 + d)=0 then none else
     k (.ret (.int .i64 (IntKind.i64.wrap (IntKind.i64.wrap (y.1.tdiv (IntKind.i64.wrap (z.1 + d))) + slV (y.1.tmod (IntKind.i64.wrap (z.1 + d))) 1 (IntKind.i64.wrap (z.1 + d)) how))))
    else none
   else none
  else none
 else none
set_option maxRecDepth 100000 in
theorem smnA_text (N n0:Nat) (α:Type) (c v:List Int) (d:Int) (k:AOut→Option α):evFn real tab ((twY fsK1 spC).env real tab N (n0 + 12)) N Try.f44 α [.ro (.int .i64) c,.ro (.int .i64) v,.int .i64 d,.fn 45 [],.int .i64 1] k=meT N mnI 1 c v d (k (.pan (.ifc 9 (.str ⟨#[115,108,105,99,101,115,46,77,105,110,58,32,101,109,112,116,121,32,108,105,115,116]⟩)))) k:=by kernel_rfl
set_option maxRecDepth 100000 in
theorem smnB_text (N n0:Nat) (α:Type) (c v:List Int) (d:Int) (k:AOut→Option α):evFn real tab ((twY fsK1 spC).env real tab N (n0 + 12)) N Try.f44 α [.ro (.int .i64) c,.ro (.int .i64) v,.int .i64 d,.fn 46 [],.int .i64 2] k=meT N mxI 2 c v d (k (.pan (.ifc 9 (.str ⟨#[115,108,105,99,101,115,46,77,97,120,58,32,101,109,112,116,121,32,108,105,115,116]⟩)))) k:=by kernel_rfl
def mnV (op:Int→Int→Int) (v:List Int):Nat→Int
 | 0=>v.getD 0 0
 | i + 1=>op (mnV op v i) (v.getD (i + 1) 0)
def toV (c v:List Int) (x:Int):Nat→Int
 | 0=>x
 | i + 1=>IntKind.i64.wrap (toV c v x i + IntKind.i64.wrap (c.getD i 0 * v.getD i 0))
def suW (c:List Int):Nat→Int
 | 0=>0
 | i + 1=>IntKind.i64.wrap (suW c i + c.getD i 0)
def meN (c:List Int) (d:Int):Int:=IntKind.i64.wrap (suW c c.length + d)
def meO (op:Int→Int→Int) (c v:List Int) (d:Int):Int:=toV c v (IntKind.i64.wrap (d * mnV op v (v.length - 1))) c.length
def meW (op:Int→Int→Int) (how:Int) (c v:List Int) (d:Int):Int:=IntKind.i64.wrap (IntKind.i64.wrap ((meO op c v d).tdiv (meN c d)) + slV ((meO op c v d).tmod (meN c d)) 1 (meN c d) how)
def meB (c v:List Int) (d:Int):Bool:=decide (1≤v.length)&&(decide (c.length≤v.length)&&!(meN c d==0))
theorem meT_eq {α:Type} (op:Int→Int→Int) (how:Int) (c v:List Int) (d:Int) (hB:meB c v d=true) (hv:v.length≤maxLen) (P:Option α) (k:AOut→Option α):meT (v.length + 1) op how c v d P k=k (.ret (.int .i64 (meW op how c v d))):=by
 unfold meB at hB
 simp only [Bool.and_eq_true,decide_eq_true_eq,Bool.not_eq_true',beq_eq_false_iff_ne] at hB
 obtain ⟨h1,h2,h3⟩:=hB
 unfold meT
 rw [decide_eq_false (show ¬ (v.length:Int) < 1 by omega),cond_false,if_pos ⟨by omega,by omega⟩]
 refine (count_loop (f:=mnF op v) (fun i=>(mnV op v i,((i + 1:Nat):Int),())) (v.length - 1) (fun i hi=>?_) (y:=(mnV op v (v.length - 1),(v.length:Int),())) (b:=0) ?_ (by omega)).trans ?_
 ·unfold mnF
  have hi':i + 1 < v.length:=by omega
  simp only [lt_len hi',cond_true,in_len hi',if_pos,and_self,decide_true,Int.toNat_natCast,wrap_next hi' hv,mnV]
 ·have e:v.length - 1 + 1=v.length:=by omega
  rw [e]
  unfold mnF
  simp only [not_lt_len,cond_false]
 rw [if_pos rfl]
 refine (count_loop (f:=toF c v) (fun i=>(toV c v (IntKind.i64.wrap (d * mnV op v (v.length - 1))) i,(i:Int),())) c.length (fun i hi=>?_) (y:=(meO op c v d,(c.length:Int),())) (b:=0) ?_ (by omega)).trans ?_
 ·unfold toF
  simp only [lt_len hi,cond_true,in_len hi,in_len (show i < v.length by omega),if_pos,and_self,decide_true,Int.toNat_natCast,wrap_next hi (by omega),toV]
 ·unfold toF
  simp only [not_lt_len,cond_false]
  rfl
 rw [if_pos rfl]
 refine (count_loop (f:=suF c) (fun i=>(suW c i,(i:Int),())) c.length (fun i hi=>?_) (y:=(suW c c.length,(c.length:Int),())) (b:=0) ?_ (by omega)).trans ?_
 ·unfold suF
  simp only [lt_len hi,cond_true,in_len hi,if_pos,and_self,decide_true,Int.toNat_natCast,wrap_next hi (by omega),suW]
 ·unfold suF
  simp only [not_lt_len,cond_false]
 rw [if_pos rfl]
 show (if meN c d=0 then none else if meN c d=0 then none else _)=_
 rw [if_neg h3,if_neg h3]
 rfl
noncomputable def smeS:Fsp:=fun _ args k=>match args with
 | [.ro (.int .i64) c,.ro (.int .i64) v,.int .i64 d,.fn g [],.int .i64 how]=>
   bif g==45&&how==1 then (bif meB c v d then k (.ret (.int .i64 (meW mnI 1 c v d))) else none) else
   bif g==46&&how==2 then (bif meB c v d then k (.ret (.int .i64 (meW mxI 2 c v d))) else none) else none
 | _=>none
theorem smeS_ok:FspOk Try.prog 44 smeS:=tower_Y fsK1_ok spC_ok ⟨Try.func44,fun _ _=>by kernel_rfl⟩ (by intro α args k; unfold smeS; split<;>simp only [cond_bind,Option.bind_some,Option.bind_none]) fun args out hSm hEq=>by
 unfold smeS at hEq
 split at hEq
 ·rename_i c v d g how
  have hv:List.length (α:=Int) v≤maxLen:=(hSm _ (.tail _ (.head _))).len
  cases h1:g==45&&how==1
  ·rw [h1,cond_false] at hEq
   cases h2:g==46&&how==2
   ·rw [h2] at hEq; cases hEq
   ·rw [h2,cond_true] at hEq
    rw [Bool.and_eq_true,beq_iff_eq,beq_iff_eq] at h2
    obtain ⟨rfl,rfl⟩:=h2
    cases hB:meB c v d
    ·rw [hB] at hEq; cases hEq
    ·rw [hB] at hEq
     exact ⟨List.length (α:=Int) v + 1,12,((smnB_text _ 0 AOut c v d some).trans (meT_eq mxI 2 c v d hB hv _ some)).trans hEq⟩
  ·rw [h1,cond_true] at hEq
   rw [Bool.and_eq_true,beq_iff_eq,beq_iff_eq] at h1
   obtain ⟨rfl,rfl⟩:=h1
   cases hB:meB c v d
   ·rw [hB] at hEq; cases hEq
   ·rw [hB] at hEq
    exact ⟨List.length (α:=Int) v + 1,12,((smnA_text _ 0 AOut c v d some).trans (meT_eq mnI 1 c v d hB hv _ some)).trans hEq⟩
 ·cases hEq
noncomputable def fsK2:FuncId→Option Fsp:=fun g=>
 if g=23 then some kchS else
 if g=38 then some skcS else
 if g=44 then some smeS else
 fsK1 g
theorem fsK2_ok:FsOk fsK2:=
 fs_cons kchS_ok <|
 fs_cons skcS_ok <|
 fs_cons smeS_ok <|
 fsK1_ok
theorem suW_in {c:List Int} (h:cntW c=true):∀ i,i≤c.length→0≤suW c i∧suW c i≤1000000 * (i:Int):=by
 have hc:∀ i,i < c.length→0≤c.getD i 0∧c.getD i 0≤1000000:=fun i hi=>by
  unfold cntW at h
  simp only [Bool.and_eq_true,Bool.not_eq_true',List.any_eq_false] at h
  have:=h.2.2 i (List.mem_range.2 hi)
  unfold cnO at this
  simpa using this
 have hl:c.length≤49:=by
  unfold cntW at h
  simp only [Bool.and_eq_true,decide_eq_true_eq] at h
  exact h.2.1
 intro i
 induction i with
 | zero=>intro _; exact ⟨Int.le_refl _,Int.le_refl _⟩
 | succ i ih=>
   intro hi
   have:=ih (by omega)
   have:=hc i (by omega)
   have e:suW c (i + 1)=suW c i + c.getD i 0:=by
    show IntKind.i64.wrap (suW c i + c.getD i 0)=_
    rw [IntKind.wrap_i64]; omega
   rw [e]
   omega
theorem cntW_len {c:List Int} (h:cntW c=true):1≤c.length∧c.length≤49:=by
 unfold cntW at h
 simp only [Bool.and_eq_true,decide_eq_true_eq] at h
 exact ⟨h.1,h.2.1⟩
theorem meN_in {c:List Int} (h:cntW c=true) {d:Int} (hd:1≤d∧d≤1000):meN c d=suW c c.length + d∧1≤meN c d:=by
 have hl:=cntW_len h
 have hs:=suW_in h c.length (Nat.le_refl _)
 unfold meN
 rw [IntKind.wrap_i64]
 omega
theorem meB_of {c v:List Int} (h:cntW c=true) (hl:v.length=c.length) {d:Int} (hd:1≤d∧d≤1000):meB c v d=true:=by
 have h1:=cntW_len h
 have h2:=meN_in h hd
 unfold meB
 rw [decide_eq_true (show 1≤v.length by omega),decide_eq_true (show c.length≤v.length by omega),show (meN c d==0)=false from beq_eq_false_iff_ne.2 (by omega)]
 rfl
def vaO (n:Int):Bool:=decide (-68719476736≤n)&&decide (n≤68719476736)
def mnB (c v:List Int) (d:Int):Bool:=cntW c&&(decide (v.length=c.length)&&(!((List.range v.length).any fun i=>!vaO (v.getD i 0))&&(decide (1≤d)&&decide (d≤1000))))
def mnO (c v:List Int) (d:Int):AOut:=.ret (.tup [.int .i64 (bif mnB c v d then meW mnI 1 c v d else 0),.int .i64 (bif mnB c v d then meW mxI 2 c v d else 0),.int .i64 (bif mnB c v d then 0 else 2)])
def mnX:AOut:=.ret (.tup [.int .i64 0,.int .i64 0,.int .i64 2])
def mnZ {α:Type} (c v:List Int) (d:Int) (k:AOut→Option α):Option α:=
 bif decide (1≤d) then bif !decide (d≤1000) then k mnX else bif meB c v d then bif meB c v d then k (.ret (.tup [.int .i64 (meW mnI 1 c v d),.int .i64 (meW mxI 2 c v d),.int .i64 0])) else none else none else k mnX
def vaF {α:Type} (c v:List Int) (d:Int) (k:AOut→Option α) (x:Int × Unit):Option (LRes (Int × Unit) α):=
 bif decide (x.1 < (v.length:Int)) then
  if 0≤x.1∧x.1 < (v.length:Int) then
   bif decide (-68719476736≤v.getD x.1.toNat 0) then bif !decide (v.getD x.1.toNat 0≤68719476736) then finL (bif decide (x.1 ≥ 0) then k mnX else mnZ c v d k) else some (.cont (IntKind.i64.wrap (x.1 + 1),()))
   else finL (bif decide (x.1 ≥ 0) then k mnX else mnZ c v d k)
  else none
 else some (.brk 0 (x.1,()))
theorem sMn_text (N n0:Nat) (α:Type) (c v:List Int) (d:Int) (k:AOut→Option α):evFn real tab ((twY fsK2 spC).env real tab N (n0 + 12)) N Try.f37 α [.ro (.int .i64) c,.ro (.int .i64) v,.int .i64 d] k =
 bif !cntW c then k mnX else bif (v.length:Int) != (c.length:Int) then k mnX else afterL (iterL N (vaF c v d k) (0,())) fun id _=>if id=0 then mnZ c v d k else none:=by
 kernel_rfl
theorem sMn_plain {α:Type} (c v:List Int) (d:Int) (k:AOut→Option α):(bif !cntW c then k mnX else bif (v.length:Int) != (c.length:Int) then k mnX else
 afterL (iterL 60 (vaF c v d k) (0,())) fun id _=>if id=0 then mnZ c v d k else none)=k (mnO c v d):=by
 unfold mnO mnB
 cases hc:cntW c
 ·rfl
 by_cases hl:v.length=c.length
 case neg=>rw [decide_eq_false hl,show ((v.length:Int) != (c.length:Int))=true from bne_iff_ne.2 (by omega)]; rfl
 rw [decide_eq_true hl,show ((v.length:Int) != (c.length:Int))=false by rw [hl]; simp,Bool.not_true,cond_false,cond_false,Bool.true_and,Bool.true_and]
 have h49:=cntW_len hc
 have hmx:v.length≤maxLen:=by have:maxLen=9223372036854775807:=rfl; omega
 refine (any_loop' (f:=vaF c v d k) (fun i:Nat=>((i:Int),())) v.length (fun i=>!vaO (v.getD i 0)) (k mnX) (fun i hi=>?_) (y:=((v.length:Int),())) (b:=0) ?_ (by omega)).trans ?_
 ·unfold vaF vaO
  simp only [lt_len hi,cond_true,in_len hi,if_pos,and_self,decide_true,Int.toNat_natCast,wrap_next hi hmx]
  cases decide (-68719476736≤v.getD i 0)<;>cases decide (v.getD i 0≤68719476736)<;>rfl
 ·unfold vaF
  simp only [not_lt_len,cond_false]
 ·rw [if_pos rfl]
  cases (List.range v.length).any fun i=>!vaO (v.getD i 0)
  case true=>rfl
  unfold mnZ
  by_cases h1:1≤d
  case neg=>rw [decide_eq_false h1]; rfl
  by_cases h2:d≤1000
  case neg=>rw [decide_eq_true h1,decide_eq_false h2]; rfl
  rw [decide_eq_true h1,decide_eq_true h2,meB_of hc hl ⟨h1,h2⟩]
  rfl
noncomputable def sMnS:Fsp:=fun _ args k=>match args with
 | [.ro (.int .i64) c,.ro (.int .i64) v,.int .i64 d]=>k (mnO c v d)
 | _=>none
theorem sMnS_ok:FspOk Try.prog 37 sMnS:=tower_Y fsK2_ok spC_ok ⟨Try.func37,fun _ _=>by kernel_rfl⟩ (by intro α args k; unfold sMnS; split<;>rfl) fun args out hSm hEq=>by
 unfold sMnS at hEq
 split at hEq
 ·rename_i c v d
  exact ⟨60,12,((sMn_text 60 0 AOut c v d some).trans (sMn_plain c v d some)).trans hEq⟩
 ·cases hEq
/-! counted of skip. -/
def emF {α:Type} (x:Int × Unit):Option (LRes (Int × Unit) α):=bif decide (x.1 < 0) then none else some (.brk 0 (x.1,()))
def emG {α:Type} (x:Int × List Int × Unit):Option (LRes (Int × List Int × Unit) α):=bif decide (x.1 < 0) then none else some (.brk 0 (x.1,x.2.1,()))
theorem kcn_text (N n0:Nat) (α:Type) (c:List Int) (m:Int) (k:AOut→Option α):evFn real tab ((twY fsK2 spC).env real tab N (n0 + 12)) N Try.f26 α [.ro (.int .i64) c,.int .i64 m] k =
 bif !cntW c then k (b1 false) else afterL (iterL N emF (0,())) fun id _=>if id=0 then if 0≤(c.length:Int)∧(c.length:Int)≤(c.length:Int)∧(c.length:Int) * ((8 :
 Nat):Int)≤((room:Nat):Int) then afterL (iterL N emG (0,List.replicate (c.length:Int).toNat 0,())) fun id _=>if id=0 then k (b1 ((c.length:Int)==m)) else none
 else none else none:=by kernel_rfl
noncomputable def kcnS:Fsp:=fun _ args k=>match args with
 | [.ro (.int .i64) c,.int .i64 m]=>k (b1 (cntW c&&((List.length (α:=Int) c:Int)==m)))
 | _=>none
theorem kcn_plain {α:Type} (c:List Int) (m:Int) (k:AOut→Option α):(bif !cntW c then k (b1 false) else
 afterL (iterL 5 emF (0,())) fun id _=>if id=0 then
  if 0≤(c.length:Int)∧(c.length:Int)≤(c.length:Int)∧(c.length:Int) * ((8:Nat):Int)≤((room:Nat):Int) then
   afterL (iterL 5 emG (0,List.replicate (c.length:Int).toNat 0,())) fun id _=>if id=0 then k (b1 ((c.length:Int)==m)) else none
  else none
 else none)=k (b1 (cntW c&&((c.length:Int)==m))):=by
 cases hc:cntW c
 ·rfl
 have h49:=cntW_len hc
 have hr:room ≥ 10000:=by decide
 rw [Bool.not_true,cond_false,Bool.true_and]
 show (if 0≤(c.length:Int)∧(c.length:Int)≤(c.length:Int)∧(c.length:Int) * ((8:Nat):Int)≤((room:Nat):Int) then _ else none)=_
 rw [if_pos ⟨by omega,by omega,by omega⟩]
 rfl
theorem kcnS_ok:FspOk Try.prog 26 kcnS:=tower_Y fsK2_ok spC_ok ⟨Try.func26,fun _ _=>by kernel_rfl⟩ (by intro α args k; unfold kcnS; split<;>rfl) fun args out hSm hEq=>by
 unfold kcnS at hEq
 split at hEq
 ·rename_i c m
  exact ⟨5,12,((kcn_text 5 0 AOut c m some).trans (kcn_plain c m some)).trans hEq⟩
 ·cases hEq
noncomputable def fsK3:FuncId→Option Fsp:=fun g=>
 if g=37 then some sMnS else
 if g=26 then some kcnS else
 fsK2 g
theorem fsK3_ok:FsOk fsK3:=
 fs_cons sMnS_ok <|
 fs_cons kcnS_ok <|
 fsK2_ok
abbrev GsI:=Int × Int × Int × Unit
abbrev HpI:=Int × Int × Unit
abbrev MpI:=List (GsI × HpI)
abbrev MpSh:Sh:=.mp GsSh HpSh
abbrev RvI:=Int × List (List Int) × List (List Int)
abbrev LsSh:Sh:=.sl (.int .i64)
def hpH (wc wb:Bool) (r:RvI) (M:MpI):List ABlk:=[.box wc [.int .i64 r.1,.ro LsSh r.2.1,.ro LsSh r.2.2,.fn 20 [.op 3 0,.op 1 0]],.box wb [.op 0 0],.row true 63 MpSh M,.box true [.own 2]]
def hpAt (h:List ABlk) (a b:Nat):Option (RvI × MpI × Nat × Nat × Bool × Bool):=
 match h.getD a .dead,h.getD b .dead with
 | .box true [.own m],.box wb [.op c 0]=>
   match h.getD m .dead,h.getD c .dead with
   | .row true t (.mp (.recd (.cons (.int .i64) (.cons (.int .i64) (.cons (.int .i64) .nil)))) (.recd (.cons (.int .i64) (.cons (.int .i64) .nil)))) M,.box wc [.int .i64 d,.ro (.sl (.int .i64)) A,.ro (.sl (.int .i64)) B,.fn f [.op a' 0,.op b' 0]]=>
     if (t=63∧f=20∧a'=a∧b'=b∧(wb || !wc)=true)∧(c≠b∧c≠m∧c≠a∧b≠m∧b≠a∧m≠a) then some ((d,A,B),M,m,c,wc,wb) else none
   | _,_=>none
 | _,_=>none
def hpM (h:List ABlk) (a m:Nat) (M:MpI):List ABlk:=((h.set m .dead).set a (.box true [.own h.length]))++[.row true 63 MpSh M]
def hpX (D:RvI→GsI→MpI→Bool) (V:RvI→GsI→HpI) (W:RvI→GsI→MpI→MpI):Cv→Cv:=fun _ _ v args h k=>
 match v,args with
 | .fn f [.op a 0,.op b 0],[.agg [.int .i64 e,.int .i64 l,.int .i64 t]]=>
   if f=20 then
    match hpAt h a b with
    | some (r,M,m,_,_,_)=>bif D r (e,l,t,()) M then k .normal (hpA (V r (e,l,t,())).1 (V r (e,l,t,())).2.1) (hpM h a m (W r (e,l,t,()) M)) else none
    | none=>none
   else none
 | _,_=>none
noncomputable def spH (D:RvI→GsI→MpI→Bool) (V:RvI→GsI→HpI) (W:RvI→GsI→MpI→MpI):FuncId→Option (Cv→Cv):=fun g=>
 if g=20 then some (hpX D V W) else spC g
def hpσ (c b m a:Nat):Nat→Nat
 | 0=>c
 | 1=>b
 | 2=>m
 | _=>a
theorem hp_box0 {σ:Nat→Nat} {I:Nat→Prop} {a b:Nat} {r:RvI} (h3:I 3) (h1:I 1) (e3:σ 3=a) (e1:σ 1=b) (j:Nat) (c' d':AVal) (hc:([.int .i64 r.1,.ro LsSh r.2.1,.ro LsSh r.2.2,.fn 20 [.op 3 0,.op 1 0]]:List AVal)[j]?=some c') (hd:([.int .i64 r.1,.ro LsSh r.2.1,.ro LsSh r.2.2,.fn 20 [.op a 0,.op b 0]]:List AVal)[j]?=some d'):Ren σ I c' d':=by
 subst e3; subst e1
 match j,hc,hd with
 | 0,hc,hd=>cases hc; cases hd; exact .flat _ rfl
 | 1,hc,hd=>cases hc; cases hd; exact .flat _ rfl
 | 2,hc,hd=>cases hc; cases hd; exact .flat _ rfl
 | 3,hc,hd=>
   cases hc; cases hd
   refine .fn _ _ _ rfl fun j c' d' hc hd=>?_
   match j,hc,hd with
   | 0,hc,hd=>cases hc; cases hd; exact .op 3 0 h3
   | 1,hc,hd=>cases hc; cases hd; exact .op 1 0 h1
   | j + 2,hc,_=>simp at hc
 | j + 4,hc,_=>simp at hc
theorem hp_box1 {σ:Nat→Nat} {I:Nat→Prop} {i c:Nat} (h0:I i) (e:σ i=c) (j:Nat) (c' d':AVal) (hc:([.op i 0]:List AVal)[j]?=some c') (hd:([.op c 0]:List AVal)[j]?=some d'):Ren σ I c' d':=by
 subst e
 match j,hc,hd with
 | 0,hc,hd=>cases hc; cases hd; exact .op i 0 h0
 | j + 1,hc,_=>simp at hc
theorem hp_box3 {σ:Nat→Nat} {I:Nat→Prop} {i c:Nat} (h0:I i) (e:σ i=c) (j:Nat) (c' d':AVal) (hc:([.own i]:List AVal)[j]?=some c') (hd:([.own c]:List AVal)[j]?=some d'):Ren σ I c' d':=by
 subst e
 match j,hc,hd with
 | 0,hc,hd=>cases hc; cases hd; exact .own i h0
 | j + 1,hc,_=>simp at hc
theorem hp_sub {h:List ABlk} {wc wb:Bool} {r:RvI} {M:MpI} {a b c m:Nat}
  (hne:c≠b∧c≠m∧c≠a∧b≠m∧b≠a∧m≠a)
  (h0:h[c]?=some (.box wc [.int .i64 r.1,.ro LsSh r.2.1,.ro LsSh r.2.2,.fn 20 [.op a 0,.op b 0]])) (h1:h[b]?=some (.box wb [.op c 0]))
  (h2:h[m]?=some (.row true 63 MpSh M)) (h3:h[a]?=some (.box true [.own m])):Sub (hpσ c b m a) (· < 4) (hpH wc wb r M) h where
 inj:=fun i j hi hj e=>by
  obtain ⟨n1,n2,n3,n4,n5,n6⟩:=hne
  match i,j,hi,hj with
  | 0,0,_,_=>rfl
  | 0,1,_,_=>exact absurd e n1
  | 0,2,_,_=>exact absurd e n2
  | 0,3,_,_=>exact absurd e n3
  | 1,0,_,_=>exact absurd e.symm n1
  | 1,1,_,_=>rfl
  | 1,2,_,_=>exact absurd e n4
  | 1,3,_,_=>exact absurd e n5
  | 2,0,_,_=>exact absurd e.symm n2
  | 2,1,_,_=>exact absurd e.symm n4
  | 2,2,_,_=>rfl
  | 2,3,_,_=>exact absurd e n6
  | 3,0,_,_=>exact absurd e.symm n3
  | 3,1,_,_=>exact absurd e.symm n5
  | 3,2,_,_=>exact absurd e.symm n6
  | 3,3,_,_=>rfl
  | i + 4,_,hi,_=>exact absurd hi (by simp)
  | _,j + 4,_,hj=>exact absurd hj (by simp)
 blk:=fun i hi=>by
  match i,hi with
  | 0,_=>exact .inl ⟨wc,_,_,rfl,h0,rfl,hp_box0 (show 3 < 4 by omega) (show 1 < 4 by omega) rfl rfl⟩
  | 1,_=>exact .inl ⟨wb,_,_,rfl,h1,rfl,hp_box1 (i:=0) (show 0 < 4 by omega) rfl⟩
  | 2,_=>exact .inr ⟨true,63,MpSh,M,rfl,h2⟩
  | 3,_=>exact .inl ⟨true,_,_,rfl,h3,rfl,hp_box3 (i:=2) (show 2 < 4 by omega) rfl⟩
  | i + 4,hi=>exact absurd hi (by simp)
structure HpEnd (wc wb:Bool) (r:RvI) (M:MpI) (hs:List ABlk) (q:Nat):Prop where
 h0:hs[0]?=some (.box wc [.int .i64 r.1,.ro LsSh r.2.1,.ro LsSh r.2.2,.fn 20 [.op 3 0,.op 1 0]])
 h1:hs[1]?=some (.box wb [.op 0 0])
 h3:hs[3]?=some (.box true [.own q])
 hq:hs[q]?=some (.row true 63 MpSh M)
 n0:q≠0∧q≠1∧q≠3
def hpσ' (h:List ABlk) (c b m a q i:Nat):Nat:=if i=q then h.length else hpσ c b m a i
def hpJ (q i:Nat):Prop:=i=0∨i=1∨i=3∨i=q
theorem hp_sub' {h hs:List ABlk} {wc wb:Bool} {r:RvI} {M:MpI} {a b c m q:Nat}
  (hne:c≠b∧c≠m∧c≠a∧b≠m∧b≠a∧m≠a) (E:HpEnd wc wb r M hs q)
  (h0:h[c]?=some (.box wc [.int .i64 r.1,.ro LsSh r.2.1,.ro LsSh r.2.2,.fn 20 [.op a 0,.op b 0]])) (h1:h[b]?=some (.box wb [.op c 0]))
  (h2:m < h.length) (h3:a < h.length):Sub (hpσ' h c b m a q) (hpJ q) hs (hpM h a m M):=by
 obtain ⟨n1,n2,n3,n4,n5,n6⟩:=hne
 obtain ⟨e0,e1,e3,eq,q0,q1,q3⟩:=E
 have lc:c < h.length:=(List.getElem?_eq_some_iff.1 h0).1
 have lb:b < h.length:=(List.getElem?_eq_some_iff.1 h1).1
 have s0:hpσ' h c b m a q 0=c:=if_neg (Ne.symm q0)
 have s1:hpσ' h c b m a q 1=b:=if_neg (Ne.symm q1)
 have s3:hpσ' h c b m a q 3=a:=if_neg (Ne.symm q3)
 have sq:hpσ' h c b m a q q=h.length:=if_pos rfl
 have f0:(hpM h a m M)[c]?=some (.box wc [.int .i64 r.1,.ro LsSh r.2.1,.ro LsSh r.2.2,.fn 20 [.op a 0,.op b 0]]):=by
  unfold hpM
  rw [List.getElem?_append_left (by simp; exact lc),List.getElem?_set_ne (Ne.symm n3),List.getElem?_set_ne (Ne.symm n2)]; exact h0
 have f1:(hpM h a m M)[b]?=some (.box wb [.op c 0]):=by
  unfold hpM
  rw [List.getElem?_append_left (by simp; exact lb),List.getElem?_set_ne (Ne.symm n5),List.getElem?_set_ne (Ne.symm n4)]; exact h1
 have f3:(hpM h a m M)[a]?=some (.box true [.own h.length]):=by
  unfold hpM
  rw [List.getElem?_append_left (by simp; exact h3),List.getElem?_set,if_pos rfl,if_pos (by simp; exact h3)]
 have fq:(hpM h a m M)[h.length]?=some (.row true 63 MpSh M):=by
  unfold hpM
  rw [List.getElem?_append_right (by simp)]
  simp
 constructor
 ·intro i j hi hj e
  rcases hi with rfl | rfl | rfl | rfl<;>rcases hj with rfl | rfl | rfl | rfl<;>simp only [s0,s1,s3,sq] at e<;>first | rfl | (exfalso; omega)
 ·intro i hi
  have j1:hpJ q 1:=.inr (.inl rfl)
  have j3:hpJ q 3:=.inr (.inr (.inl rfl))
  rcases hi with rfl | rfl | rfl | rfl
  ·rw [← s0] at f0
   exact .inl ⟨wc,_,_,e0,f0,rfl,hp_box0 j3 j1 s3 s1⟩
  ·rw [← s1] at f1
   exact .inl ⟨wb,_,_,e1,f1,rfl,hp_box1 (i:=0) (.inl rfl) s0⟩
  ·have g3:(hpM h a m M)[hpσ' h c b m a q 3]?=some (.box true [.own h.length]):=by rw [s3]; exact f3
   exact .inl ⟨true,_,_,e3,g3,rfl,hp_box3 (i:=q) (.inr (.inr (.inr rfl))) sq⟩
  ·exact .inr ⟨true,63,MpSh,M,eq,by rw [sq]; exact fq⟩
theorem getD_box {h:List ABlk} {i:Nat} {b:ABlk} (hb:b≠.dead) (e:h.getD i .dead=b):h[i]?=some b:=by
 rw [List.getD_eq_getElem?_getD] at e
 cases hx:h[i]? with
 | none=>rw [hx] at e; exact absurd e.symm hb
 | some q=>rw [hx] at e; exact congrArg some e
theorem hpAt_some {h:List ABlk} {a b:Nat} {r:RvI} {M:MpI} {m c:Nat} {w wb:Bool} (e:hpAt h a b=some (r,M,m,c,w,wb)) :
  (wb || !w)=true∧(c≠b∧c≠m∧c≠a∧b≠m∧b≠a∧m≠a)∧h[c]?=some (.box w [.int .i64 r.1,.ro LsSh r.2.1,.ro LsSh r.2.2,.fn 20 [.op a 0,.op b 0]])∧h[b]?=some (.box wb [.op c 0])∧h[m]?=some (.row true 63 MpSh M)∧h[a]?=some (.box true [.own m]):=by
 unfold hpAt at e
 split at e
 ·rename_i m' wb' c' e1 e2
  split at e
  ·rename_i t M' wc' d A B f a' b' e3 e4
   split at e
   ·rename_i hh
    obtain ⟨⟨rfl,rfl,rfl,rfl,hw⟩,hne⟩:=hh
    cases e
    exact ⟨hw,hne,getD_box (by simp) e4,getD_box (by simp) e2,getD_box (by simp) e3,getD_box (by simp) e1⟩
   ·cases e
  ·cases e
 ·cases e
theorem hpX_at {D:RvI→GsI→MpI→Bool} {V:RvI→GsI→HpI} {W:RvI→GsI→MpI→MpI} {sp:FuncId→Option (Cv→Cv)} (hsp:SpOk sp)
  (step:∀ (w wb:Bool) r s M,(wb || !w)=true→D r s M=true→∃ N n hs q,evBody real tab ((twY fsK3 sp).env real tab N n) N Try.f20 [.agg [.int .i64 s.1,.int .i64 s.2.1,.int .i64 s.2.2.1],.op 3 0,.op 1 0] (hpH w wb r M) tripE=some (.normal,hpA (V r s).1 (V r s).2.1,hs)∧HpEnd w wb r (W r s M) hs q)
  (cv:Cv) (caps:List AVal):CvAt Try.prog (hpX D V W cv) (.fn 20 caps) where
 nat:=fun α args h k=>by
  unfold hpX
  split
  ·split
   ·split
    ·rw [cond_bind]; rfl
    ·rfl
   ·rfl
  ·rfl
 ok:=fun args h x u h1 hk K g w fv cargs s hv hlen hargs=>by
  unfold hpX at hk
  split at hk
  case h_2=>cases hk
  rename_i f a b e l t hcaps
  split at hk
  case isFalse=>cases hk
  split at hk
  case h_2=>cases hk
  rename_i r M m c wf wg hat
  cases hD:D r (e,l,t,()) M
  ·rw [hD] at hk; cases hk
  rw [hD] at hk
  cases hk
  cases hcaps
  obtain ⟨hww,hne,q0,q1,q2,q3⟩:=hpAt_some hat
  obtain ⟨N,n,hs,q,hbody,E⟩:=step wf wg r (e,l,t,()) M hww hD
  have S0:=hp_sub hne q0 q1 q2 q3
  have hm:m < h.length:=(List.getElem?_eq_some_iff.1 q2).1
  have ha:a < h.length:=(List.getElem?_eq_some_iff.1 q3).1
  have S1:=hp_sub' (h:=h) (m:=m) hne E q0 q1 hm ha
  obtain ⟨n1,n2,n3,n4,n5,n6⟩:=hne
  have keep:∀ j,j < h.length→j≠m→j≠a→(hpM h a m (W r (e,l,t,()) M))[j]?=h[j]?:=fun j hj h1 h2=>by
   unfold hpM
   rw [List.getElem?_append_left (by simp; exact hj),List.getElem?_set_ne (Ne.symm h2),List.getElem?_set_ne (Ne.symm h1)]
  cases hv with
  | fn _ _ arr ha1 ha2=>
    refine .inl ⟨_,arr,rfl,fun w=>by kernel_rfl,?_⟩
    have st:=sub_st s (I:=(· < 4)) (hs:=hpH wf wg r M) (fun i hi=>hi) S0
    refine (body_calls mixedT tabOk (tower_ok mixedT tabOk (twY_ok fsK3_ok hsp) N n) N Try.func20 hbody st (by rw [Array.size_append,← hlen,← ha1]; rfl) fun j c' z hc hz=>?_).mono fun e' w' hp=>sub_post (q:=q) s S0 S1 ⟨.inr (.inr (.inr rfl)),if_pos rfl⟩ (fun i hi=>?_) (by unfold hpM; simp) (fun j hj hn=>keep j hj (fun e=>hn 2 (show 2 < 4 by omega) e.symm) fun e=>hn 3 (show 3 < 4 by omega) e.symm) (fun i hi hk=>?_) (fun i hi cs hb=>?_) (fun i hi t e xs hb=>?_) (.agg _ _ rfl fun j c' d' hc hd=>?_) hp
    ·have down:∀ {c' d':AVal} {v:Value},Ren (hpσ c b m a) (· < 4) c' d'→Rep h g w d' v→Rep (hpH wf wg r M) ⟨fun i=>g.ρ (hpσ c b m a i),g.M⟩ w c' v:=fun rr hh=>ren_down S0 (g:=g) (gs:=⟨fun i=>g.ρ (hpσ c b m a i),g.M⟩) (fun _ _=>rfl) (fun _ h=>h) rr hh
     match j,hc with
     | 0,hc=>
       simp only [List.getElem?_cons_zero,Option.some.injEq] at hc
       subst hc
       have hz':cargs[0]?=some z:=by
        rw [Array.getElem?_append_left (by rw [← hlen]; simp)] at hz
        exact hz
       refine down (.agg _ _ rfl fun j c' d' hc hd=>?_) (hargs 0 _ z rfl hz')
       rw [hc] at hd; cases hd
       match j,hc with
       | 0,hc=>cases hc; exact .flat _ rfl
       | 1,hc=>cases hc; exact .flat _ rfl
       | 2,hc=>cases hc; exact .flat _ rfl
       | j + 3,hc=>simp at hc
     | 1,hc=>
       simp only [List.getElem?_cons_succ,List.getElem?_cons_zero,Option.some.injEq] at hc
       subst hc
       have hz':arr[0]?=some z:=by
        rw [Array.getElem?_append_right (by rw [← hlen]; simp),← hlen] at hz
        exact hz
       exact down (.op 3 0 (show 3 < 4 by omega)) (ha2 0 _ z rfl hz')
     | 2,hc=>
       simp only [List.getElem?_cons_succ,List.getElem?_cons_zero,Option.some.injEq] at hc
       subst hc
       have hz':arr[1]?=some z:=by
        rw [Array.getElem?_append_right (by rw [← hlen]; simp),← hlen] at hz
        exact hz
       exact down (.op 1 0 (show 1 < 4 by omega)) (ha2 1 _ z rfl hz')
     | j + 3,hc=>simp at hc
    ·by_cases e:i=q
     ·exact .inl e
     ·refine .inr ⟨?_,if_neg e⟩
      rcases hi with rfl | rfl | rfl | rfl
      ·show 0 < 4; omega
      ·show 1 < 4; omega
      ·show 3 < 4; omega
      ·exact absurd rfl e
    ·obtain ⟨_,_,_,_,z0,z1,z3⟩:=E
     match i,hi with
     | 0,_=>exact absurd ⟨.inl rfl,Ne.symm z0⟩ hk
     | 1,_=>exact absurd ⟨.inr (.inl rfl),Ne.symm z1⟩ hk
     | 2,_=>
       show (hpM h a m _)[m]?=some ABlk.dead
       unfold hpM
       rw [List.getElem?_append_left (by simp; exact hm),List.getElem?_set_ne (Ne.symm n6),List.getElem?_set,if_pos rfl,if_pos hm]
     | 3,_=>exact absurd ⟨.inr (.inr (.inl rfl)),Ne.symm z3⟩ hk
     | i + 4,hi=>exact absurd hi (by simp)
    ·match i,hi with
     | 0,_=>exact (keep c (List.getElem?_eq_some_iff.1 q0).1 n2 n3).trans hb
     | 1,_=>exact (keep b (List.getElem?_eq_some_iff.1 q1).1 n4 n5).trans hb
     | 2,_=>
       have:h[m]?=some (ABlk.box false cs):=hb
       rw [q2] at this; cases this
     | 3,_=>
       have:h[a]?=some (ABlk.box false cs):=hb
       rw [q3] at this; cases this
     | i + 4,hi=>exact absurd hi (by simp)
    ·match i,hi with
     | 0,_=>
       have:h[c]?=some (ABlk.row false t e xs):=hb
       rw [q0] at this; cases this
     | 1,_=>
       have:h[b]?=some (ABlk.row false t e xs):=hb
       rw [q1] at this; cases this
     | 2,_=>
       have:h[m]?=some (ABlk.row false t e xs):=hb
       rw [q2] at this; cases this
     | 3,_=>
       have:h[a]?=some (ABlk.row false t e xs):=hb
       rw [q3] at this; cases this
     | i + 4,hi=>exact absurd hi (by simp)
    ·rw [hc] at hd; cases hd
     match j,hc with
     | 0,hc=>cases hc; exact .flat _ rfl
     | 1,hc=>cases hc; exact .flat _ rfl
     | j + 2,hc=>simp at hc
abbrev PnS:=Int × MpI × List HpI × Unit
def nxG (e l t p:Int):GsI:=(nxE e,nxL l t p,nxT t p,())
def pnH {α:Type} (D:RvI→GsI→MpI→Bool) (V:RvI→GsI→HpI) (W:RvI→GsI→MpI→MpI) (r:RvI) (e l t:Int) (x:PnS):Option (LRes PnS α):=
 bif hmB t then bif D r (nxG e l t x.1) x.2.1 then
  if (x.2.2.1.length + [(((V r (nxG e l t x.1)).1,(V r (nxG e l t x.1)).2.1,()):HpI)].length) * 16≤room then some (.cont (IntKind.i64.wrap (x.1 + 1),W r (nxG e l t x.1) x.2.1,x.2.2.1++[((V r (nxG e l t x.1)).1,(V r (nxG e l t x.1)).2.1,())],())) else none
 else none else none
def pnZ {α:Type} (b:Bool) (x:PnS):Option (LRes PnS α):=
 if (x.2.2.1.length + [((suV b,suV b,()):HpI)].length) * 16≤room then some (.cont (IntKind.i64.wrap (x.1 + 1),x.2.1,x.2.2.1++[(suV b,suV b,())],())) else none
def pnC {α:Type} (D:RvI→GsI→MpI→Bool) (V:RvI→GsI→HpI) (W:RvI→GsI→MpI→MpI) (r:RvI) (e l t:Int) (x:PnS):Option (LRes PnS α):=
 bif decide (x.1 < 0) then bif decide (e > 0) then pnH D V W r e l t x else pnZ (t==1) x else bif decide (e > 0) then pnH D V W r e l t x else pnZ false x
def pnF {α:Type} (D:RvI→GsI→MpI→Bool) (V:RvI→GsI→HpI) (W:RvI→GsI→MpI→MpI) (r:RvI) (e l t:Int) (x:PnS):Option (LRes PnS α):=
 bif decide (x.1≤8) then bif decide (x.1 > 0) then bif t==0 then bif decide (e > 0) then pnH D V W r e l t x else pnZ true x else pnC D V W r e l t x else pnC D V W r e l t x
 else some (.brk 0 (x.1,x.2.1,x.2.2.1,()))
abbrev LhS:=List Int × List Int × Int × Unit
def lhF {α:Type} (H:List HpI) (x:LhS):Option (LRes LhS α):=
 bif decide (x.2.2.1 < (H.length:Int)) then
  if 0≤x.2.2.1∧x.2.2.1 < (H.length:Int) then
   if (x.1.length + [(H.getD x.2.2.1.toNat (0,0,())).1].length) * 8≤room then if (x.2.1.length + [(H.getD x.2.2.1.toNat (0,0,())).2.1].length) * 8≤room then
    some (.cont (x.1++[(H.getD x.2.2.1.toNat (0,0,())).1],x.2.1++[(H.getD x.2.2.1.toNat (0,0,())).2.1],IntKind.i64.wrap (x.2.2.1 + 1),()))
   else none else none
  else none
 else some (.brk 0 (x.1,x.2.1,x.2.2.1,()))
abbrev SgS:=List HpI × List HpI × Int × MpI × Unit
def meH (c lo hi:List Int) (d:Int):HpI:=(bif mnB c lo d then meW mnI 1 c lo d else 0,bif mnB c hi d then meW mxI 2 c hi d else 0,())
def sgM {α:Type} (N:Nat) (d:Int) (c:List Int) (x:SgS):Option (LRes SgS α):=
 afterL (iterL N (lhF x.1) ([],[],0,())) fun id y=>if id=0 then
  if (x.2.1.length + [meH c y.1 y.2.1 d].length) * 16≤room then some (.cont (x.1,x.2.1++[meH c y.1 y.2.1 d],IntKind.i64.wrap (x.2.2.1 + 1),x.2.2.2.1,())) else none
 else none
def sgF {α:Type} (N:Nat) (d e:Int) (L:List (List Int)) (x:SgS):Option (LRes SgS α):=
 bif decide (x.2.2.1 < (L.length:Int)) then
  if 0≤x.2.2.1∧x.2.2.1 < (L.length:Int) then
   bif e==0 then
    if 0 < (L.getD x.2.2.1.toNat []).length then if ((List.nil (α:=Int)).length + (L.getD x.2.2.1.toNat []).length) * 8≤room then
     if 0≤(8:Int)∧(8:Int) < ((([]:List Int)++L.getD x.2.2.1.toNat []).length:Int) then sgM N d ((([]:List Int)++L.getD x.2.2.1.toNat []).set (Int.toNat 8) 0) x else none
    else none else none
   else sgM N d (L.getD x.2.2.1.toNat []) x
  else none
 else some (.brk 0 (x.1,x.2.1,x.2.2.1,x.2.2.2.1,()))
def hpB (wc wb:Bool) (r:RvI) (q:Nat):List ABlk:=[.box wc [.int .i64 r.1,.ro LsSh r.2.1,.ro LsSh r.2.2,.fn 20 [.op 3 0,.op 1 0]],.box wb [.op 0 0],.dead,.box true [.own q]]
def hpE (wc wb:Bool) (r:RvI) (e l t:Int) (O:List HpI) (M:MpI):List ABlk:=
 hpB wc wb r 20++[.box true [.int .i64 e,.int .i64 l,.int .i64 t],.box true [.int .i64 (chX (opT t) O).1,.int .i64 (chX (opT t) O).2],.box true [.int .i64 (chX (opT t) O).1,.int .i64 (chX (opT t) O).2]]++List.replicate 12 .dead++[.row true 33 HpSh O,.row true 63 MpSh (mpPut GsSh HpSh (e,l,t,()) ((chX (opT t) O).1,(chX (opT t) O).2,()) M)]
def sgT {α:Type} (N:Nat) (wc wb:Bool) (r:RvI) (e l t:Int) (L:List (List Int)) (H:List HpI) (M:MpI) (k:AExit→AVal→List ABlk→Option α):Option α:=
 afterL (iterL N (sgF N r.1 e L) (H,[],0,M,())) fun id z=>if id=0 then
  bif choB z.2.1 t then k .normal (hpA (chX (opT t) z.2.1).1 (chX (opT t) z.2.1).2) (hpE wc wb r e l t z.2.1 z.2.2.2.1) else none
 else none
def fdH (s:GsI) (M:MpI):HpI:=Option.getD (α:=HpI) (mpFind GsSh HpSh s M) (0,0,())
def hpU {α:Type} (N:Nat) (D:RvI→GsI→MpI→Bool) (V:RvI→GsI→HpI) (W:RvI→GsI→MpI→MpI) (wc wb:Bool) (r:RvI) (M:MpI) (e l t:Int) (k:AExit→AVal→List ABlk→Option α):Option α:=
 bif !(mpFind GsSh HpSh (e,l,t,()) M).isSome then
  afterL (iterL N (pnF D V W r e l t) (-8,M,[],())) fun id y=>if id=0 then
   if 0≤t∧t < ((2:Nat):Int) then bif t==((0:Nat):Int) then sgT N wc wb r e l t r.2.1 y.2.2.1 y.2.1 k else bif t==((0 + 1:Nat):Int) then sgT N wc wb r e l t r.2.2 y.2.2.1 y.2.1 k else none else none
  else none
 else k .normal (hpA (fdH (e,l,t,()) M).1 (fdH (e,l,t,()) M).2.1) (hpH wc wb r M++[.box true [.int .i64 e,.int .i64 l,.int .i64 t],.box true [.int .i64 (fdH (e,l,t,()) M).1,.int .i64 (fdH (e,l,t,()) M).2.1],.box true [.int .i64 (fdH (e,l,t,()) M).1,.int .i64 (fdH (e,l,t,()) M).2.1]])
def hpT {α:Type} (N:Nat) (D:RvI→GsI→MpI→Bool) (V:RvI→GsI→HpI) (W:RvI→GsI→MpI→MpI) (wc wb:Bool) (r:RvI) (M:MpI) (e l t:Int) (k:AExit→AVal→List ABlk→Option α):Option α:=
 bif e==0 then bif l != 0 then k .normal (hpA (suV (decide (l > 0))) (suV (decide (l > 0)))) (hpH wc wb r M++[.box true [.int .i64 e,.int .i64 l,.int .i64 t],.box true [.int .i64 (suV (decide (l > 0))),.int .i64 (suV (decide (l > 0)))]])
  else hpU N D V W wc wb r M e l t k
 else hpU N D V W wc wb r M e l t k
set_option maxRecDepth 100000 in
theorem hp_bodyA (N n0:Nat) (D:RvI→GsI→MpI→Bool) (V:RvI→GsI→HpI) (W:RvI→GsI→MpI→MpI) (d:Int) (A B:List (List Int)) (M:MpI) (e l t:Int) (α:Type) (k:AExit→AVal→List ABlk→Option α):evBody real tab ((twY fsK3 (spH D V W)).env real tab N (n0 + 30)) N Try.f20 (α:=α) [.agg [.int .i64 e,.int .i64 l,.int .i64 t],.op 3 0,.op 1 0] (hpH true true (d,A,B) M) k=hpT N D V W true true (d,A,B) M e l t k:=by kernel_rfl
set_option maxRecDepth 100000 in
theorem hp_bodyB (N n0:Nat) (D:RvI→GsI→MpI→Bool) (V:RvI→GsI→HpI) (W:RvI→GsI→MpI→MpI) (d:Int) (A B:List (List Int)) (M:MpI) (e l t:Int) (α:Type) (k:AExit→AVal→List ABlk→Option α):evBody real tab ((twY fsK3 (spH D V W)).env real tab N (n0 + 30)) N Try.f20 (α:=α) [.agg [.int .i64 e,.int .i64 l,.int .i64 t],.op 3 0,.op 1 0] (hpH false false (d,A,B) M) k=hpT N D V W false false (d,A,B) M e l t k:=by kernel_rfl
set_option maxRecDepth 100000 in
theorem hp_bodyC (N n0:Nat) (D:RvI→GsI→MpI→Bool) (V:RvI→GsI→HpI) (W:RvI→GsI→MpI→MpI) (d:Int) (A B:List (List Int)) (M:MpI) (e l t:Int) (α:Type) (k:AExit→AVal→List ABlk→Option α):evBody real tab ((twY fsK3 (spH D V W)).env real tab N (n0 + 30)) N Try.f20 (α:=α) [.agg [.int .i64 e,.int .i64 l,.int .i64 t],.op 3 0,.op 1 0] (hpH false true (d,A,B) M) k=hpT N D V W false true (d,A,B) M e l t k:=by kernel_rfl
theorem hp_body (w wb:Bool) (hw:(wb || !w)=true) (N n0:Nat) (D:RvI→GsI→MpI→Bool) (V:RvI→GsI→HpI) (W:RvI→GsI→MpI→MpI) (r:RvI) (M:MpI) (e l t:Int) (α:Type) (k:AExit→AVal→List ABlk→Option α):evBody real tab ((twY fsK3 (spH D V W)).env real tab N (n0 + 30)) N Try.f20 (α:=α) [.agg [.int .i64 e,.int .i64 l,.int .i64 t],.op 3 0,.op 1 0] (hpH w wb r M) k=hpT N D V W w wb r M e l t k:=by
 cases w<;>cases wb
 ·exact hp_bodyB N n0 D V W r.1 r.2.1 r.2.2 M e l t α k
 ·exact hp_bodyC N n0 D V W r.1 r.2.1 r.2.2 M e l t α k
 ·cases hw
 ·exact hp_bodyA N n0 D V W r.1 r.2.1 r.2.2 M e l t α k
/-! The points of an end. -/
def suB (t p:Int):Bool:=(decide (p > 0)&&t==0) || (decide (p < 0)&&t==1)
def hpO (V:RvI→GsI→HpI) (r:RvI) (e l t p:Int):HpI:=bif decide (e > 0) then V r (nxG e l t p) else (suV (suB t p),suV (suB t p),())
def pnL (V:RvI→GsI→HpI) (r:RvI) (e l t:Int) (i:Nat):List HpI:=(List.range i).map fun j:Nat=>hpO V r e l t ((j:Int) - 8)
def pnM (W:RvI→GsI→MpI→MpI) (r:RvI) (e l t:Int) (M:MpI):Nat→MpI
 | 0=>M
 | i + 1=>bif decide (e > 0) then W r (nxG e l t ((i:Int) - 8)) (pnM W r e l t M i) else pnM W r e l t M i
theorem pnL_succ (V:RvI→GsI→HpI) (r:RvI) (e l t:Int) (i:Nat):pnL V r e l t (i + 1)=pnL V r e l t i++[hpO V r e l t ((i:Int) - 8)]:=by
 unfold pnL
 rw [List.range_succ,List.map_append]; rfl
theorem pnL_len (V:RvI→GsI→HpI) (r:RvI) (e l t:Int) (i:Nat):(pnL V r e l t i).length=i:=by
 unfold pnL
 rw [List.length_map,List.length_range]
theorem pnF_eq0 {α:Type} (D:RvI→GsI→MpI→Bool) (V:RvI→GsI→HpI) (W:RvI→GsI→MpI→MpI) (r:RvI) (e l t:Int) (x:PnS) (h8:x.1≤8):pnF (α:=α) D V W r e l t x=bif decide (e > 0) then pnH D V W r e l t x else pnZ (suB t x.1) x:=by
 unfold pnF pnC suB
 rw [decide_eq_true h8,cond_true]
 by_cases h1:x.1 > 0
 ·rw [decide_eq_true h1,decide_eq_false (show ¬ x.1 < 0 by omega),cond_true,cond_false]
  cases t==0<;>rfl
 ·rw [decide_eq_false h1,cond_false]
  by_cases h2:x.1 < 0
  ·rw [decide_eq_true h2,cond_true]
   rfl
  ·rw [decide_eq_false h2,cond_false]
   rfl
theorem pnF_eq {α:Type} {D:RvI→GsI→MpI→Bool} {V:RvI→GsI→HpI} {W:RvI→GsI→MpI→MpI} {r:RvI} {e l t:Int} (ht:hmB t=true) {M:MpI} {i:Nat} (hi:i < 17) (hD:e > 0→D r (nxG e l t ((i:Int) - 8)) (pnM W r e l t M i)=true) :
  pnF (α:=α) D V W r e l t ((i:Int) - 8,pnM W r e l t M i,pnL V r e l t i,())=some (.cont (((i + 1:Nat):Int) - 8,pnM W r e l t M (i + 1),pnL V r e l t (i + 1),())):=by
 have hl:=pnL_len V r e l t i
 have hr:((pnL V r e l t i).length + 1) * 16≤room:=by rw [hl]; simp only [room]; omega
 have hw:IntKind.i64.wrap ((i:Int) - 8 + 1)=((i + 1:Nat):Int) - 8:=by rw [IntKind.wrap_i64]; omega
 rw [pnF_eq0 _ _ _ _ _ _ _ _ (show (i:Int) - 8≤8 by omega),pnL_succ]
 simp only [pnM,hpO]
 by_cases he:e > 0
 ·rw [decide_eq_true he,cond_true,cond_true,cond_true]
  unfold pnH
  simp only []
  rw [ht,hD he,cond_true,cond_true,hw]
  exact if_pos hr
 ·rw [decide_eq_false he,cond_false,cond_false,cond_false]
  unfold pnZ
  simp only []
  rw [hw]
  exact if_pos hr
theorem pn_run {α:Type} {D:RvI→GsI→MpI→Bool} {V:RvI→GsI→HpI} {W:RvI→GsI→MpI→MpI} {r:RvI} {e l t:Int} (ht:hmB t=true) {M:MpI} (hD:∀ i:Nat,i < 17→e > 0→D r (nxG e l t ((i:Int) - 8)) (pnM W r e l t M i)=true) (K:Nat→PnS→Option α) :
  afterL (iterL 20 (pnF D V W r e l t) (-8,M,[],())) K=K 0 (9,pnM W r e l t M 17,pnL V r e l t 17,()):=
 count_loop (f:=pnF D V W r e l t) (fun i=>((i:Int) - 8,pnM W r e l t M i,pnL V r e l t i,())) 17 (fun i hi=>pnF_eq ht hi (hD i hi)) (y:=(9,pnM W r e l t M 17,pnL V r e l t 17,())) (b:=0) (by
  unfold pnF
  rfl) (by omega)
/-! The bounds of a style. -/
def lhS (H:List HpI) (i:Nat):LhS:=((H.take i).map (·.1),(H.take i).map (·.2.1),(i:Int),())
theorem lhF_eq {α:Type} (H:List HpI) (hH:H.length≤100) {i:Nat} (hi:i < H.length):lhF (α:=α) H (lhS H i)=some (.cont (lhS H (i + 1))):=by
 unfold lhS
 have hmx:H.length≤maxLen:=by have:maxLen=9223372036854775807:=rfl; omega
 have e:H.take (i + 1)=H.take i++[H.getD i (0,0,())]:=by
  rw [List.take_add_one,List.getElem?_eq_getElem hi,List.getD_eq_getElem?_getD,List.getElem?_eq_getElem hi]; rfl
 have hl:(H.take i).length=i:=List.length_take_of_le (by omega)
 have r1:(((H.take i).map (·.1)).length + 1) * 8≤room:=by rw [List.length_map,hl]; simp only [room]; omega
 have r2:(((H.take i).map (·.2.1)).length + 1) * 8≤room:=by rw [List.length_map,hl]; simp only [room]; omega
 rw [e,List.map_append,List.map_append]
 unfold lhF
 simp only []
 rw [lt_len hi,cond_true,if_pos (in_len hi),wrap_next hi hmx,Int.toNat_natCast]
 rw [if_pos (show (((H.take i).map (·.1)).length + [(H.getD i (0,0,())).1].length) * 8≤room from r1),if_pos (show (((H.take i).map (·.2.1)).length + [(H.getD i (0,0,())).2.1].length) * 8≤room from r2)]
 rfl
theorem lh_run {α:Type} (H:List HpI) (hH:H.length≤100) {N:Nat} (hN:H.length < N) (K:Nat→LhS→Option α):afterL (iterL N (lhF H) ([],[],0,())) K=K 0 (H.map (·.1),H.map (·.2.1),(H.length:Int),()):=by
 have e0:(([],[],0,()):LhS)=lhS H 0:=rfl
 have e1:lhS H H.length=(H.map (·.1),H.map (·.2.1),(H.length:Int),()):=by unfold lhS; rw [List.take_length]
 rw [e0,← e1]
 refine count_loop (f:=lhF H) (lhS H) H.length (fun i hi=>lhF_eq H hH hi) (y:=lhS H H.length) (b:=0) ?_ hN
 rw [e1]
 unfold lhF
 simp only [not_lt_len,cond_false]
def cnZ (e:Int) (c:List Int):List Int:=bif e==0 then c.set 8 0 else c
def syH (d e:Int) (H:List HpI) (c:List Int):HpI:=meH (cnZ e c) (H.map (·.1)) (H.map (·.2.1)) d
def sgS (d e:Int) (L:List (List Int)) (H:List HpI) (M:MpI) (i:Nat):SgS:=(H,(L.take i).map (syH d e H),(i:Int),M,())
theorem sgF_eq {α:Type} {d e:Int} {L:List (List Int)} {H:List HpI} {M:MpI} (hH:H.length≤18) (hL:L.length≤8) {i:Nat} (hi:i < L.length) (hc:(L.getD i []).length=17) :
  sgF (α:=α) 20 d e L (sgS d e L H M i)=some (.cont (sgS d e L H M (i + 1))):=by
 unfold sgS
 have hmx:L.length≤maxLen:=by have:maxLen=9223372036854775807:=rfl; omega
 have hE:L.take (i + 1)=L.take i++[L.getD i []]:=by
  rw [List.take_add_one,List.getElem?_eq_getElem hi,List.getD_eq_getElem?_getD,List.getElem?_eq_getElem hi]; rfl
 have hl:(L.take i).length=i:=List.length_take_of_le (by omega)
 have hm:∀ c:List Int,sgM (α:=α) 20 d c (H,(L.take i).map (syH d e H),(i:Int),M,())=some (.cont (H,(L.take i).map (syH d e H)++[meH c (H.map (·.1)) (H.map (·.2.1)) d],((i + 1:Nat):Int),M,())):=fun c=>by
  unfold sgM
  refine (lh_run H (by omega) (by omega) _).trans ?_
  rw [if_pos rfl]
  have hr:(((L.take i).map (syH d e H)).length + 1) * 16≤room:=by rw [List.length_map,hl]; simp only [room]; omega
  simp only []
  rw [wrap_next hi hmx]
  exact if_pos hr
 have hr:room ≥ 10000:=by decide
 rw [hE,List.map_append]
 unfold sgF
 simp only []
 rw [lt_len hi,cond_true,if_pos (in_len hi),Int.toNat_natCast,hm,hm]
 cases he:e==0
 ·simp only [cond_false,syH,cnZ,he,List.map_cons,List.map_nil]
 ·rw [cond_true,if_pos (show 0 < (L.getD i []).length by omega),if_pos (show ((List.nil (α:=Int)).length + (L.getD i []).length) * 8≤room by rw [hc]; simp only [List.length_nil]; omega),if_pos (show 0≤(8:Int)∧(8:Int) < ((([]:List Int)++L.getD i []).length:Int) by rw [List.nil_append,hc]; omega)]
  simp only [syH,cnZ,he,cond_true,List.map_cons,List.map_nil,List.nil_append]
  rfl
theorem sg_run {α:Type} {d e:Int} {L:List (List Int)} {H:List HpI} {M:MpI} (hH:H.length≤18) (hL:L.length≤8) (hc:∀ i,i < L.length→(L.getD i []).length=17) (K:Nat→SgS→Option α) :
  afterL (iterL 20 (sgF 20 d e L) (H,[],0,M,())) K=K 0 (H,L.map (syH d e H),(L.length:Int),M,()):=by
 have e0:((H,[],0,M,()):SgS)=sgS d e L H M 0:=rfl
 have e1:sgS d e L H M L.length=(H,L.map (syH d e H),(L.length:Int),M,()):=by unfold sgS; rw [List.take_length]
 rw [e0,← e1]
 refine count_loop (f:=sgF 20 d e L) (sgS d e L H M) L.length (fun i hi=>sgF_eq hH hL hi (hc i hi)) (y:=sgS d e L H M L.length) (b:=0) ?_ (by omega)
 rw [e1]
 unfold sgF
 simp only [not_lt_len,cond_false]
def opL (r:RvI) (t:Int):List (List Int):=bif t==0 then r.2.1 else r.2.2
def stH (V:RvI→GsI→HpI) (r:RvI) (e l t:Int):List HpI:=(opL r t).map (syH r.1 e (pnL V r e l t 17))
def chO (t:Int) (L:List HpI):HpI:=((chX (opT t) L).1,(chX (opT t) L).2,())
def hvN:Nat→RvI→GsI→HpI
 | 0,r,s=>bif s.2.1 != 0 then (suV (decide (s.2.1 > 0)),suV (decide (s.2.1 > 0)),()) else chO s.2.2.1 (stH (fun _ _=>(0,0,())) r s.1 s.2.1 s.2.2.1)
 | n + 1,r,s=>chO s.2.2.1 (stH (hvN n) r s.1 s.2.1 s.2.2.1)
def hv (r:RvI) (s:GsI):HpI:=hvN s.1.toNat r s
def wvN:Nat→RvI→GsI→MpI→MpI
 | 0,r,s,M=>bif s.2.1 != 0 then M else bif (mpFind GsSh HpSh s M).isSome then M else mpPut GsSh HpSh s (hv r s) M
 | n + 1,r,s,M=>bif (mpFind GsSh HpSh s M).isSome then M else mpPut GsSh HpSh s (hv r s) (pnM (wvN n) r s.1 s.2.1 s.2.2.1 M 17)
def wv (r:RvI) (s:GsI) (M:MpI):MpI:=wvN s.1.toNat r s M
/-! What is asked. -/
def rv1 (L:List (List Int)):Bool:=decide (1≤L.length)&&(decide (L.length≤8)&&L.all fun c=>cntW c&&decide (c.length=17))
def rvB (r:RvI):Bool:=rv1 r.2.1&&(rv1 r.2.2&&(decide (1≤r.1)&&decide (r.1≤1000)))
def stB (s:GsI):Bool:=(decide (0≤s.1)&&decide (s.1≤12))&&((decide (-96≤s.2.1)&&decide (s.2.1≤96))&&hmB s.2.2.1)
def gdB (r:RvI) (M:MpI):Bool:=M.all fun x=>x.2.1==(hv r x.1).1&&x.2.2.1==(hv r x.1).2.1
def hpD (k:Nat) (r:RvI) (s:GsI) (M:MpI):Bool:=rvB r&&(stB s&&(decide (s.1 < (k:Int))&&gdB r M))
theorem gs_eq {a b:GsI} (h:Sh.eqb GsSh a b=true):a=b:=by
 obtain ⟨a1,a2,a3,_⟩:=a
 obtain ⟨b1,b2,b3,_⟩:=b
 have h':((a1==b1)&&((a2==b2)&&((a3==b3)&&true)))=true:=h
 simp only [Bool.and_eq_true,beq_iff_eq] at h'
 obtain ⟨rfl,rfl,rfl,_⟩:=h'
 rfl
theorem gd_find {r:RvI} {M:MpI} (h:gdB r M=true) {s:GsI} {v:HpI} (hf:mpFind GsSh HpSh s M=some v):v=hv r s:=by
 induction M with
 | nil=>cases hf
 | cons p M ih=>
   unfold gdB at h
   rw [List.all_cons,Bool.and_eq_true] at h
   change (bif Sh.eqb GsSh s p.1 then some p.2 else mpFind GsSh HpSh s M)=some v at hf
   cases he:Sh.eqb GsSh s p.1
   ·rw [he] at hf
    exact ih h.2 hf
   ·rw [he] at hf
    cases (show some p.2=some v from hf)
    have e:=gs_eq he
    have h1:=h.1
    simp only [Bool.and_eq_true,beq_iff_eq] at h1
    obtain ⟨s',v1,v2,_⟩:=p
    cases e
    exact Prod.ext h1.1 (Prod.ext h1.2 rfl)
theorem gd_put {r:RvI} {M:MpI} (h:gdB r M=true) (s:GsI):gdB r (mpPut GsSh HpSh s (hv r s) M)=true:=by
 have hs:gdB r [(s,hv r s)]=true:=by
  unfold gdB
  simp
 induction M with
 | nil=>exact hs
 | cons p M ih=>
   unfold gdB at h
   rw [List.all_cons,Bool.and_eq_true] at h
   show gdB r (bif Sh.eqb GsSh s p.1 then (s,hv r s) :: M else p :: mpPut GsSh HpSh s (hv r s) M)=true
   cases he:Sh.eqb GsSh s p.1
   ·show ((p.2.1==(hv r p.1).1&&p.2.2.1==(hv r p.1).2.1)&&gdB r (mpPut GsSh HpSh s (hv r s) M))=true
    rw [h.1,ih h.2]; rfl
   ·show (((hv r s).1==(hv r s).1&&(hv r s).2.1==(hv r s).2.1)&&gdB r M)=true
    rw [beq_self_eq_true,beq_self_eq_true,show gdB r M=true from h.2]; rfl
theorem gd_fold {r:RvI} {W:RvI→GsI→MpI→MpI} (hW:∀ s M,gdB r M=true→gdB r (W r s M)=true) (e l t:Int) {M:MpI} (h:gdB r M=true):∀ i,gdB r (pnM W r e l t M i)=true
 | 0=>h
 | i + 1=>by
   rw [pnM]
   cases decide (e > 0)
   ·exact gd_fold hW e l t h i
   ·exact hW _ _ (gd_fold hW e l t h i)
theorem gd_wvN {r:RvI}:∀ (n:Nat) (s:GsI) (M:MpI),gdB r M=true→gdB r (wvN n r s M)=true
 | 0,s,M,h=>by
   rw [wvN]
   cases s.2.1 != 0
   ·cases (mpFind GsSh HpSh s M).isSome
    ·exact gd_put h s
    ·exact h
   ·exact h
 | n + 1,s,M,h=>by
   rw [wvN]
   cases (mpFind GsSh HpSh s M).isSome
   ·exact gd_put (gd_fold (gd_wvN n) _ _ _ h 17) s
   ·exact h
theorem gd_wv {r:RvI} (s:GsI) (M:MpI) (h:gdB r M=true):gdB r (wv r s M)=true:=gd_wvN _ s M h
theorem clL_in (x:Int):-96≤clL x∧clL x≤96:=by
 unfold clL
 split<;>split at *<;>omega
theorem stB_in {s:GsI} (h:stB s=true):(0≤s.1∧s.1≤12)∧(-96≤s.2.1∧s.2.1≤96)∧(s.2.2.1=0∨s.2.2.1=1):=by
 unfold stB hmB at h
 simpa only [Bool.and_eq_true,Bool.or_eq_true,decide_eq_true_eq,beq_iff_eq] using h
theorem nx_e {e:Int} (h0:0 < e) (h1:e≤12):nxE e=e - 1:=by
 unfold nxE
 rw [IntKind.wrap_i64]; omega
theorem nx_st {e l t p:Int} (h:stB (e,l,t,())=true) (h0:0 < e):stB (nxG e l t p)=true:=by
 obtain ⟨h1,h2,h3⟩:=stB_in h
 have hc:=clL_in (IntKind.i64.wrap (l + IntKind.i64.wrap ((bif t==0 then 1 else -1) * p)))
 unfold stB nxG nxL nxT hmB
 simp only [nx_e h0 h1.2,Bool.and_eq_true,Bool.or_eq_true,decide_eq_true_eq,beq_iff_eq]
 refine ⟨⟨by omega,by omega⟩,hc,?_⟩
 simp only at h3
 rcases h3 with rfl | rfl
 ·cases decide (p > 0)
  ·exact .inl rfl
  ·exact .inr rfl
 ·cases decide (p > 0)
  ·exact .inr rfl
  ·exact .inl rfl
theorem pnL_congr {V V':RvI→GsI→HpI} {r:RvI} {e l t:Int} (h:∀ p,e > 0→V r (nxG e l t p)=V' r (nxG e l t p)) (n:Nat):pnL V r e l t n=pnL V' r e l t n:=by
 unfold pnL
 refine List.map_congr_left fun j _=>?_
 unfold hpO
 by_cases he:e > 0
 ·rw [h _ he]
 ·rw [decide_eq_false he]; rfl
theorem hv_eq {r:RvI} {e l t:Int} (h0:0≤e) (h1:e≤12):hv r (e,l,t,())=bif e==0&&l != 0 then (suV (decide (l > 0)),suV (decide (l > 0)),()) else chO t (stH hv r e l t):=by
 by_cases he:e=0
 ·subst he
  show hvN 0 r (0,l,t,())=_
  rw [hvN]
  unfold stH
  rw [pnL_congr (V:=fun _ _=>(0,0,())) (V':=hv) (fun p h=>absurd h (by omega))]
  rfl
 ·obtain ⟨n,hn⟩:∃ n:Nat,e=(n:Int) + 1:=⟨(e - 1).toNat,by omega⟩
  have hz:hv r (e,l,t,())=hvN (n + 1) r (e,l,t,()):=by
   show hvN e.toNat r _=_
   rw [show e.toNat=n + 1 by omega]
  rw [hz,hvN,show (e==0)=false from beq_eq_false_iff_ne.2 he,Bool.false_and,cond_false]
  unfold stH
  rw [pnL_congr (V:=hvN n) (V':=hv) (fun p h=>?_)]
  show _=hvN (nxE e).toNat r _
  rw [nx_e (by omega) h1,show (e - 1).toNat=n by omega]
theorem pnM_congr {V V':RvI→GsI→MpI→MpI} {r:RvI} {e l t:Int} (h:∀ p M,e > 0→V r (nxG e l t p) M=V' r (nxG e l t p) M) (M:MpI):∀ n,pnM V r e l t M n=pnM V' r e l t M n
 | 0=>rfl
 | n + 1=>by
   rw [pnM,pnM,pnM_congr h M n]
   by_cases he:e > 0
   ·rw [h _ _ he]
   ·rw [decide_eq_false he]; rfl
theorem pnM_zero (W:RvI→GsI→MpI→MpI) (r:RvI) (l t:Int) (M:MpI):∀ n,pnM W r 0 l t M n=M
 | 0=>rfl
 | n + 1=>by rw [pnM]; exact pnM_zero W r l t M n
theorem wv_eq {r:RvI} {e l t:Int} {M:MpI} (h0:0≤e) (h1:e≤12):wv r (e,l,t,()) M=bif e==0&&l != 0 then M else bif (mpFind GsSh HpSh (e,l,t,()) M).isSome then M else mpPut GsSh HpSh (e,l,t,()) (hv r (e,l,t,())) (pnM wv r e l t M 17):=by
 by_cases he:e=0
 ·subst he
  show wvN 0 r (0,l,t,()) M=_
  rw [wvN,pnM_zero]
  rfl
 ·obtain ⟨n,hn⟩:∃ n:Nat,e=(n:Int) + 1:=⟨(e - 1).toNat,by omega⟩
  have hz:wv r (e,l,t,()) M=wvN (n + 1) r (e,l,t,()) M:=by
   show wvN e.toNat r _ _=_
   rw [show e.toNat=n + 1 by omega]
  rw [hz,wvN,show (e==0)=false from beq_eq_false_iff_ne.2 he,Bool.false_and,cond_false]
  rw [pnM_congr (V:=wvN n) (V':=wv) (fun p M h=>?_)]
  ·rfl
  ·show _=wvN (nxE e).toNat r _ M
   rw [nx_e (by omega) h1,show (e - 1).toNat=n by omega]
theorem rv1_in {L:List (List Int)} (h:rv1 L=true):1≤L.length∧L.length≤8∧∀ i,i < L.length→cntW (L.getD i [])=true∧(L.getD i []).length=17:=by
 unfold rv1 at h
 simp only [Bool.and_eq_true,decide_eq_true_eq,List.all_eq_true] at h
 refine ⟨h.1,h.2.1,fun i hi=>?_⟩
 rw [List.getD_eq_getElem?_getD,List.getElem?_eq_getElem hi]
 exact h.2.2 _ (List.getElem_mem hi)
theorem rvB_in {r:RvI} (h:rvB r=true):rv1 r.2.1=true∧rv1 r.2.2=true∧1≤r.1∧r.1≤1000:=by
 unfold rvB at h
 simpa only [Bool.and_eq_true,decide_eq_true_eq] using h
theorem sg_text {w wb:Bool} {r:RvI} {e l t:Int} {L:List (List Int)} (hL:rv1 L=true) (ht:hmB t=true) {H:List HpI} (hH:H.length=17) {M:MpI}:sgT 20 w wb r e l t L H M tripE=some (.normal,hpA (chX (opT t) (L.map (syH r.1 e H))).1 (chX (opT t) (L.map (syH r.1 e H))).2,hpE w wb r e l t (L.map (syH r.1 e H)) M):=by
 obtain ⟨h1,h2,h3⟩:=rv1_in hL
 have hB:choB (L.map (syH r.1 e H)) t=true:=by
  unfold choB
  rw [ht,List.length_map,decide_eq_true (by omega)]; rfl
 unfold sgT
 refine (sg_run (by omega) h2 (fun i hi=>(h3 i hi).2) _).trans ?_
 show (bif choB (L.map (syH r.1 e H)) t then _ else _)=_
 rw [hB]
 rfl
theorem hpE_end {w wb:Bool} {r:RvI} {e l t:Int} {O:List HpI} {M:MpI}:HpEnd w wb r (mpPut GsSh HpSh (e,l,t,()) ((chX (opT t) O).1,(chX (opT t) O).2,()) M) (hpE w wb r e l t O M) 20:=⟨rfl,rfl,rfl,rfl,by omega,by omega,by omega⟩
theorem hpH_end {w wb:Bool} {r:RvI} {M:MpI} {B:List ABlk}:HpEnd w wb r M (hpH w wb r M++B) 2:=⟨rfl,rfl,rfl,rfl,by omega,by omega,by omega⟩
theorem hp_step (k:Nat) (w wb:Bool) (r:RvI) (s:GsI) (M:MpI) (h:hpD (k + 1) r s M=true):∃ hs q,hpT 20 (hpD k) hv wv w wb r M s.1 s.2.1 s.2.2.1 tripE=some (.normal,hpA (hv r s).1 (hv r s).2.1,hs)∧HpEnd w wb r (wv r s M) hs q:=by
 obtain ⟨e,l,t,_⟩:=s
 unfold hpD at h
 simp only [Bool.and_eq_true,decide_eq_true_eq] at h
 obtain ⟨hr,hs,hk,hg⟩:=h
 obtain ⟨h1,h2,h3⟩:=stB_in hs
 have ht:hmB t=true:=by
  unfold hmB
  rw [Bool.or_eq_true,beq_iff_eq,beq_iff_eq]; exact h3
 simp only at h1 h2 h3
 have hU:(e==0&&l != 0)=false→∃ hs q,hpU 20 (hpD k) hv wv w wb r M e l t tripE=some (.normal,hpA (hv r (e,l,t,())).1 (hv r (e,l,t,())).2.1,hs)∧HpEnd w wb r (wv r (e,l,t,()) M) hs q:=fun hn=>by
  have ehv:=hv_eq (r:=r) (l:=l) (t:=t) h1.1 h1.2
  have ewv:=wv_eq (r:=r) (l:=l) (t:=t) (M:=M) h1.1 h1.2
  rw [hn,cond_false] at ehv ewv
  unfold hpU
  cases hf:mpFind GsSh HpSh (e,l,t,()) M with
  | some v=>
    rw [hf] at ewv
    rw [ewv]
    have hv':=gd_find hg hf
    refine ⟨_,2,?_,hpH_end (B:=[.box true [.int .i64 e,.int .i64 l,.int .i64 t],.box true [.int .i64 (fdH (e,l,t,()) M).1,.int .i64 (fdH (e,l,t,()) M).2.1],.box true [.int .i64 (fdH (e,l,t,()) M).1,.int .i64 (fdH (e,l,t,()) M).2.1]])⟩
    have hfd:fdH (e,l,t,()) M=hv r (e,l,t,()):=(congrArg (fun o=>Option.getD (α:=HpI) o (0,0,())) hf).trans hv'
    rw [hfd]
    rfl
  | none=>
    rw [hf] at ewv
    replace ewv:wv r (e,l,t,()) M=mpPut GsSh HpSh (e,l,t,()) (hv r (e,l,t,())) (pnM wv r e l t M 17):=ewv
    rw [ewv,ehv]
    refine ⟨hpE w wb r e l t (stH hv r e l t) (pnM wv r e l t M 17),20,?_,hpE_end⟩
    refine (pn_run ht (fun i _ he=>?_) _).trans ?_
    ·unfold hpD
     simp only [Bool.and_eq_true,decide_eq_true_eq]
     refine ⟨hr,nx_st hs he,?_,gd_fold gd_wv e l t hg i⟩
     show nxE e < _
     rw [nx_e he h1.2]; omega
    ·rw [if_pos rfl]
     obtain ⟨r1,r2,_⟩:=rvB_in hr
     have h17:=pnL_len hv r e l t 17
     rcases h3 with rfl | rfl
     ·exact sg_text r1 rfl h17
     ·exact sg_text r2 rfl h17
 unfold hpT
 cases h0:e==0
 ·exact hU (by rw [h0]; rfl)
 ·cases hl:l != 0
  ·exact hU (by rw [hl,Bool.and_false])
  ·have ehv:=hv_eq (r:=r) (l:=l) (t:=t) h1.1 h1.2
   have ewv:=wv_eq (r:=r) (l:=l) (t:=t) (M:=M) h1.1 h1.2
   rw [h0,hl] at ehv ewv
   rw [ehv,ewv]
   exact ⟨_,2,rfl,hpH_end⟩
theorem hp_at:∀ (k:Nat) (cv:Cv) (caps:List AVal),CvAt Try.prog (hpX (hpD k) hv wv cv) (.fn 20 caps)
 | 0=>hpX_at spC_ok fun w wb r s M hw h=>by
   unfold hpD at h
   simp only [Bool.and_eq_true,decide_eq_true_eq] at h
   have:=(stB_in h.2.1).1.1
   omega
 | k + 1=>hpX_at (sp:=spH (hpD k) hv wv) (sp_cons (fun cv _ caps=>hp_at k cv caps) spC_ok) fun w wb r s M hw h=>by
   obtain ⟨hs,q,e,E⟩:=hp_step k w wb r s M h
   exact ⟨20,30,hs,q,(hp_body w wb hw 20 0 _ _ _ r M s.1 s.2.1 s.2.2.1 _ tripE).trans e,E⟩
noncomputable def spK:FuncId→Option (Cv→Cv):=spH (hpD 13) hv wv
theorem spK_ok:SpOk spK:=sp_cons (fun cv _ caps=>hp_at 13 cv caps) spC_ok
def c17 (c:List Int):Bool:=cntW c&&((c.length:Int)==17)
def crG {α:Type} (L:List (List Int)) (R E:Option α) (y:Int × Unit):Option (LRes (Int × Unit) α):=
 bif decide (y.1 < (L.length:Int)) then
  if 0≤y.1∧y.1 < (L.length:Int) then
   bif !c17 (L.getD y.1.toNat []) then finL (bif decide (y.1 ≥ 0) then R else E) else some (.cont (IntKind.i64.wrap (y.1 + 1),()))
  else none
 else some (.brk 0 (y.1,()))
def cr1 {α:Type} (N:Nat) (L:List (List Int)) (R E:Option α):Option α:=
 bif decide (1≤(L.length:Int)) then bif !decide ((L.length:Int)≤8) then R else afterL (iterL N (crG L R E) (0,())) fun id _=>if id=0 then E else none else R
def crF {α:Type} (N:Nat) (A B:List (List Int)) (R:Option α) (x:Int × Unit):Option (LRes (Int × Unit) α):=
 bif decide (x.1 < 2) then
  if 0≤x.1∧x.1 < ((2:Nat):Int) then cr1 N ([A,B].getD x.1.toNat []) (finL R) (some (.cont (IntKind.i64.wrap (x.1 + 1),()))) else none
 else some (.brk 0 (x.1,()))
def crT {α:Type} (N:Nat) (d:Int) (A B:List (List Int)) (k:AOut→Option α):Option α:=
 afterL (iterL N (crF N A B (k (i1 2))) (0,())) fun id _=>if id=0 then bif decide (1≤d) then bif !decide (d≤1000) then k (i1 2) else k (i1 0) else k (i1 2) else none
set_option maxRecDepth 100000 in
theorem kcr_text (N n0:Nat) (α:Type) (d:Int) (A B:List (List Int)) (k:AOut→Option α):evFn real tab ((twY fsK3 spK).env real tab N (n0 + 30)) N Try.f19 α [.agg [.int .i64 d,.ro LsSh A,.ro LsSh B]] k=crT N d A B k:=by kernel_rfl
theorem c17_all (L:List (List Int)):((List.range L.length).any fun i=>!c17 (L.getD i []))=!L.all fun c=>cntW c&&decide (c.length=17):=by
 rw [any_rangeX L [] fun c=>!c17 c]
 have h17:∀ c:List Int,((c.length:Int)==17)=decide (c.length=17):=fun c=>by
  rw [Bool.eq_iff_iff,beq_iff_eq,decide_eq_true_eq]; omega
 induction L with
 | nil=>rfl
 | cons c L ih=>
   rw [List.any_cons,List.all_cons,ih,Bool.not_and]
   unfold c17
   rw [h17]
theorem cr1_eq {α:Type} {N:Nat} (hN:9 < N) (L:List (List Int)) (R E:Option α):cr1 N L R E=bif rv1 L then E else R:=by
 unfold cr1 rv1
 by_cases h1:1≤L.length
 case neg=>rw [decide_eq_false (show ¬ 1≤(L.length:Int) by omega),decide_eq_false h1]; rfl
 by_cases h8:L.length≤8
 case neg=>rw [decide_eq_true (show 1≤(L.length:Int) by omega),decide_eq_false (show ¬ (L.length:Int)≤8 by omega),decide_eq_true h1,decide_eq_false h8]; rfl
 rw [decide_eq_true (show 1≤(L.length:Int) by omega),decide_eq_true (show (L.length:Int)≤8 by omega),decide_eq_true h1,decide_eq_true h8]
 have hmx:L.length≤maxLen:=by have:maxLen=9223372036854775807:=rfl; omega
 refine (any_loop' (f:=crG L R E) (fun i:Nat=>((i:Int),())) L.length (fun i=>!c17 (L.getD i [])) R (fun i hi=>?_) (y:=((L.length:Int),())) (b:=0) ?_ (by omega)).trans ?_
 ·unfold crG
  simp only [lt_len hi,cond_true,in_len hi,if_pos,and_self,decide_true,Int.toNat_natCast,wrap_next hi hmx]
  try (rw [decide_eq_true (show (i:Int) ≥ 0 by omega)]; rfl)
 ·unfold crG
  simp only [not_lt_len,cond_false]
 ·rw [if_pos rfl,c17_all]
  show _=bif true&&(true&&_) then E else R
  rw [Bool.true_and,Bool.true_and]
  cases L.all fun c=>cntW c&&decide (c.length=17)<;>rfl
theorem crT_eq {α:Type} {N:Nat} (hN:9 < N) (d:Int) (A B:List (List Int)) (k:AOut→Option α):crT N d A B k=k (i1 (bif rvB (d,A,B) then 0 else 2)):=by
 unfold crT
 refine (any_loop' (f:=crF N A B (k (i1 2))) (fun i:Nat=>((i:Int),())) 2 (fun i=>!rv1 ([A,B].getD i [])) (k (i1 2)) (fun i hi=>?_) (y:=(2,())) (b:=0) ?_ (by omega)).trans ?_
 ·unfold crF
  rw [cr1_eq hN]
  simp only []
  rw [decide_eq_true (show (i:Int) < 2 by omega),cond_true,if_pos ⟨by omega,by omega⟩,Int.toNat_natCast,wrap_next (show i < 2 by omega) (by decide)]
  cases rv1 ([A,B].getD i [])<;>rfl
 ·rfl
 ·rw [if_pos rfl]
  show (bif (!rv1 A || (!rv1 B || false)) then _ else _)=_
  unfold rvB
  cases rv1 A
  ·rfl
  cases rv1 B
  ·rfl
  show (bif decide (1≤d) then bif !decide (d≤1000) then k (i1 2) else k (i1 0) else k (i1 2))=k (i1 (bif (decide (1≤d)&&decide (d≤1000)) then 0 else 2))
  cases decide (1≤d)
  ·rfl
  cases decide (d≤1000)<;>rfl
noncomputable def kcrS:Fsp:=fun _ args k=>match args with
 | [.agg [.int .i64 d,.ro (.sl (.int .i64)) A,.ro (.sl (.int .i64)) B]]=>k (i1 (bif rvB (d,A,B) then 0 else 2))
 | _=>none
theorem kcrS_ok:FspOk Try.prog 19 kcrS:=tower_Y fsK3_ok spK_ok ⟨Try.func19,fun _ _=>by kernel_rfl⟩ (by intro α args k; unfold kcrS; split<;>rfl) fun args out hSm hEq=>by
 unfold kcrS at hEq
 split at hEq
 ·rename_i d A B
  exact ⟨12,30,((kcr_text 12 0 AOut d A B some).trans (crT_eq (by decide) d A B some)).trans hEq⟩
 ·cases hEq
/-! States. -/
theorem kcs_text (N n0:Nat) (α:Type) (e l t:Int) (k:AOut→Option α):evFn real tab ((twY fsK3 spK).env real tab N (n0 + 30)) N Try.f16 α [.agg [.int .i64 e,.int .i64 l,.int .i64 t]] k =
 bif decide (0≤e) then bif !decide (e≤12) then k (i1 2) else bif decide (-96≤l) then bif !decide (l≤96) then k (i1 2) else bif decide (0≤t) then bif !decide (t≤1) then k
 (i1 2) else k (i1 0) else k (i1 2) else k (i1 2) else k (i1 2):=by kernel_rfl
theorem hm_dec (t:Int):(decide (0≤t)&&decide (t≤1))=hmB t:=by
 unfold hmB
 rw [Bool.eq_iff_iff,Bool.and_eq_true,Bool.or_eq_true,decide_eq_true_eq,decide_eq_true_eq,beq_iff_eq,beq_iff_eq]
 omega
theorem st_parts {β:Type} (e l t:Int) (X Y:β):(bif decide (0≤e) then bif !decide (e≤12) then X else bif decide (-96≤l) then bif !decide (l≤96) then X else bif decide (0≤t) then bif !decide (t≤1) then X else Y else X else X else X)=bif stB (e,l,t,()) then Y else X:=by
 unfold stB
 rw [← hm_dec]
 simp only []
 cases decide (0≤e)
 ·rfl
 cases decide (e≤12)
 ·rfl
 cases decide (-96≤l)
 ·rfl
 cases decide (l≤96)
 ·rfl
 cases decide (0≤t)
 ·rfl
 cases decide (t≤1)<;>rfl
noncomputable def kcsS:Fsp:=fun _ args k=>match args with
 | [.agg [.int .i64 e,.int .i64 l,.int .i64 t]]=>k (i1 (bif stB (e,l,t,()) then 0 else 2))
 | _=>none
theorem kcsS_ok:FspOk Try.prog 16 kcsS:=tower_Y fsK3_ok spK_ok ⟨Try.func16,fun _ _=>by kernel_rfl⟩ (by intro α args k; unfold kcsS; split<;>rfl) fun args out hSm hEq=>by
 unfold kcsS at hEq
 split at hEq
 ·rename_i e l t
  refine ⟨12,30,((kcs_text 12 0 AOut e l t some).trans ((st_parts e l t (some (i1 2)) (some (i1 0))).trans ?_)).trans hEq⟩
  cases stB (e,l,t,())<;>rfl
 ·cases hEq
noncomputable def fsK4:FuncId→Option Fsp:=fun g=>
 if g=19 then some kcrS else
 if g=16 then some kcsS else
 fsK3 g
theorem fsK4_ok:FsOk fsK4:=
 fs_cons kcrS_ok <|
 fs_cons kcsS_ok <|
 fsK3_ok
/-! The next state. -/
def ptB (p:Int):Bool:=decide (-8≤p)&&decide (p≤8)
def nnO (e l t p:Int):AOut:=bif stB (e,l,t,())&&ptB p then bif e==0 then .ret (.tup [nxA 0 0 0,.int .i64 9]) else .ret (.tup [nxA (nxE e) (nxL l t p) (nxT t p),.int .i64 0]) else .ret (.tup [nxA 0 0 0,.int .i64 2])
def nnB (e l t p:Int):Bool:=stB (e,l,t,())&&(ptB p&&!(e==0))
def nnE (e l t p:Int):Int:=bif nnB e l t p then nxE e else 0
def nnL (e l t p:Int):Int:=bif nnB e l t p then nxL l t p else 0
def nnT (e l t p:Int):Int:=bif nnB e l t p then nxT t p else 0
def nnR (e l t p:Int):Int:=bif stB (e,l,t,())&&ptB p then bif e==0 then 9 else 0 else 2
theorem nnO_eq (e l t p:Int):nnO e l t p=.ret (.tup [nxA (nnE e l t p) (nnL e l t p) (nnT e l t p),.int .i64 (nnR e l t p)]):=by
 unfold nnO nnE nnL nnT nnR nnB
 cases stB (e,l,t,())
 ·rfl
 cases ptB p
 ·rfl
 cases e==0<;>rfl
theorem knn_text (N n0:Nat) (α:Type) (e l t p:Int) (k:AOut→Option α):evFn real tab ((twY fsK4 spK).env real tab N (n0 + 30)) N Try.f9 α [.agg [.int .i64 e,.int .i64 l,.int .i64 t],.int .i64 p] k =
 bif (bif stB (e,l,t,()) then (0:Int) else 2) != 0 then k (.ret (.tup [nxA 0 0 0,.int .i64 2])) else bif decide (-8≤p) then bif !decide (p≤8) then k (.ret (.tup [nxA 0 0 0,
 .int .i64 2])) else bif e==0 then k (.ret (.tup [nxA 0 0 0,.int .i64 9])) else bif hmB t then k (.ret (.tup [nxA (nxE e) (nxL l t p) (nxT t p),.int .i64 0])) else none else k
 (.ret (.tup [nxA 0 0 0,.int .i64 2])):=by kernel_rfl
noncomputable def knnS:Fsp:=fun _ args k=>match args with
 | [.agg [.int .i64 e,.int .i64 l,.int .i64 t],.int .i64 p]=>k (.ret (.tup [nxA (nnE e l t p) (nnL e l t p) (nnT e l t p),.int .i64 (nnR e l t p)]))
 | _=>none
theorem stB_hm {e l t:Int} (h:stB (e,l,t,())=true):hmB t=true:=by
 unfold stB at h
 simp only [Bool.and_eq_true] at h
 exact h.2.2
theorem knnS_ok:FspOk Try.prog 9 knnS:=tower_Y fsK4_ok spK_ok ⟨Try.func9,fun _ _=>by kernel_rfl⟩ (by intro α args k; unfold knnS; split<;>rfl) fun args out hSm hEq=>by
 unfold knnS at hEq
 split at hEq
 ·rename_i e l t p
  replace hEq:=(congrArg some (nnO_eq e l t p)).trans hEq
  refine ⟨12,30,((knn_text 12 0 AOut e l t p some).trans ?_).trans hEq⟩
  unfold nnO ptB
  cases hs:stB (e,l,t,())
  ·rfl
  show (bif decide (-8≤p) then bif !decide (p≤8) then _ else bif e==0 then _ else bif hmB t then _ else none else _)=_
  rw [stB_hm hs]
  cases decide (-8≤p)
  ·rfl
  cases decide (p≤8)
  ·rfl
  show _=some (bif e==0 then _ else _)
  cases e==0<;>rfl
 ·cases hEq
noncomputable def fsK5:FuncId→Option Fsp:=fun g=>
 if g=9 then some knnS else
 fsK4 g
theorem fsK5_ok:FsOk fsK5:=
 fs_cons knnS_ok <|
 fsK4_ok
def rsB (d:Int) (A B:List (List Int)) (e l t:Int):Bool:=rvB (d,A,B)&&stB (e,l,t,())
theorem rs_parts {β:Type} (d:Int) (A B:List (List Int)) (e l t:Int) (X Y:β):(bif (bif rvB (d,A,B) then (0:Int) else 2)==0 then bif !(bif stB (e,l,t,()) then (0:Int) else 2)==0 then X else Y else X)=bif rsB d A B e l t then Y else X:=by
 unfold rsB
 cases rvB (d,A,B)
 ·rfl
 cases stB (e,l,t,())<;>rfl
theorem hpD_nil {d:Int} {A B:List (List Int)} {s:GsI} (hr:rvB (d,A,B)=true) (hs:stB s=true) {M:MpI} (hg:gdB (d,A,B) M=true):hpD 13 (d,A,B) s M=true:=by
 unfold hpD
 rw [hr,hs,hg,decide_eq_true (show s.1 < ((13:Nat):Int) by have:=(stB_in hs).1; omega)]
 rfl
/-! Value. -/
def vaO' (d:Int) (A B:List (List Int)) (e l t:Int):AOut:=bif rsB d A B e l t then .ret (.tup [hpA (hv (d,A,B) (e,l,t,())).1 (hv (d,A,B) (e,l,t,())).2.1,.int .i64 0]) else .ret (.tup [hpA 0 0,.int .i64 2])
def rsE (d:Int) (A B:List (List Int)) (e l t:Int):Int:=bif rsB d A B e l t then 0 else 2
def vaL (d:Int) (A B:List (List Int)) (e l t:Int):Int:=bif rsB d A B e l t then (hv (d,A,B) (e,l,t,())).1 else 0
def vaH (d:Int) (A B:List (List Int)) (e l t:Int):Int:=bif rsB d A B e l t then (hv (d,A,B) (e,l,t,())).2.1 else 0
theorem vaO_eq (d:Int) (A B:List (List Int)) (e l t:Int):vaO' d A B e l t=.ret (.tup [hpA (vaL d A B e l t) (vaH d A B e l t),.int .i64 (rsE d A B e l t)]):=by
 unfold vaO' rsE vaL vaH
 cases rsB d A B e l t<;>rfl
theorem kva_text (N n0:Nat) (α:Type) (d:Int) (A B:List (List Int)) (e l t:Int) (k:AOut→Option α):evFn real tab ((twY fsK5 spK).env real tab N (n0 + 30)) N Try.f6 α [.agg [.int .i64 d,.ro LsSh A,.ro LsSh B],.agg [.int .i64 e,.int .i64 l,.int .i64 t]] k =
 bif (bif rvB (d,A,B) then (0:Int) else 2)==0 then bif !(bif stB (e,l,t,()) then (0:Int) else 2)==0 then k (.ret (.tup [hpA 0 0,.int .i64 2])) else bif hpD 13 (d,A,B)
 (e,l,t,()) [] then k (.ret (.tup [hpA (hv (d,A,B) (e,l,t,())).1 (hv (d,A,B) (e,l,t,())).2.1,.int .i64 0])) else none else k (.ret (.tup [hpA 0 0,.int .i64 2])):=by
 kernel_rfl
noncomputable def kvaS:Fsp:=fun _ args k=>match args with
 | [.agg [.int .i64 d,.ro (.sl (.int .i64)) A,.ro (.sl (.int .i64)) B],.agg [.int .i64 e,.int .i64 l,.int .i64 t]]=>k (.ret (.tup [hpA (vaL d A B e l t) (vaH d A B e l t),.int .i64 (rsE d A B e l t)]))
 | _=>none
theorem kvaS_ok:FspOk Try.prog 6 kvaS:=tower_Y fsK5_ok spK_ok ⟨Try.func6,fun _ _=>by kernel_rfl⟩ (by intro α args k; unfold kvaS; split<;>rfl) fun args out hSm hEq=>by
 unfold kvaS at hEq
 split at hEq
 ·rename_i d A B e l t
  replace hEq:=(congrArg some (vaO_eq d A B e l t)).trans hEq
  refine ⟨20,30,((kva_text 20 0 AOut d A B e l t some).trans ((rs_parts d A B e l t _ _).trans ?_)).trans hEq⟩
  unfold vaO'
  cases hr:rsB d A B e l t
  ·rfl
  unfold rsB at hr
  rw [Bool.and_eq_true] at hr
  rw [hpD_nil hr.1 hr.2 rfl]
  rfl
 ·cases hEq
/-! Blank. -/
def bkG (r:RvI) (e l t p:Int):HpI:=hv r (nxG e l t p)
def bkP (r:RvI) (e l t:Int):HpI:=bif t==1 then bkG r e l t 1 else bkG r e l t 0
def bkQ (r:RvI) (e l t:Int):HpI:=bif t==1 then bkG r e l t 0 else bkG r e l t 1
def bkL (r:RvI) (e l t:Int):Int:=IntKind.i64.wrap ((bkP r e l t).1 - (bkQ r e l t).2.1)
def bkH (r:RvI) (e l t:Int):Int:=IntKind.i64.wrap ((bkP r e l t).2.1 - (bkQ r e l t).1)
def bkW (a b:Int):Int:=bif decide (a > 0) then 1 else bif decide (b < 0) then -1 else 0
def bkX (e:Int):AOut:=.ret (.tup [.int .i64 0,.int .i64 0,.int .i64 0,.int .i64 e])
def bkO (d:Int) (A B:List (List Int)) (e l t:Int):AOut:=bif rsB d A B e l t then bif e==0 then bkX 9 else .ret (.tup [.int .i64 (bkL (d,A,B) e l t),.int .i64 (bkH (d,A,B) e l t),.int .i64 (bkW (bkL (d,A,B) e l t) (bkH (d,A,B) e l t)),.int .i64 0]) else bkX 2
def bkB (d:Int) (A B:List (List Int)) (e l t:Int):Bool:=rsB d A B e l t&&!(e==0)
def bqL (d:Int) (A B:List (List Int)) (e l t:Int):Int:=bif bkB d A B e l t then bkL (d,A,B) e l t else 0
def bqH (d:Int) (A B:List (List Int)) (e l t:Int):Int:=bif bkB d A B e l t then bkH (d,A,B) e l t else 0
def bqW (d:Int) (A B:List (List Int)) (e l t:Int):Int:=bif bkB d A B e l t then bkW (bkL (d,A,B) e l t) (bkH (d,A,B) e l t) else 0
def bqE (d:Int) (A B:List (List Int)) (e l t:Int):Int:=bif rsB d A B e l t then bif e==0 then 9 else 0 else 2
theorem bkO_eq (d:Int) (A B:List (List Int)) (e l t:Int):bkO d A B e l t=.ret (.tup [.int .i64 (bqL d A B e l t),.int .i64 (bqH d A B e l t),.int .i64 (bqW d A B e l t),.int .i64 (bqE d A B e l t)]):=by
 unfold bkO bqL bqH bqW bqE bkB
 cases rsB d A B e l t
 ·rfl
 cases e==0<;>rfl
def bkT {α:Type} (a b:Int) (k:AOut→Option α):Option α:=bif decide (a > 0) then k (.ret (.tup [.int .i64 a,.int .i64 b,.int .i64 1,.int .i64 0])) else bif decide (b < 0) then k (.ret (.tup [.int .i64 a,.int .i64 b,.int .i64 (-1),.int .i64 0])) else k (.ret (.tup [.int .i64 a,.int .i64 b,.int .i64 0,.int .i64 0]))
theorem kbk_text (N n0:Nat) (α:Type) (d:Int) (A B:List (List Int)) (e l t:Int) (k:AOut→Option α):evFn real tab ((twY fsK5 spK).env real tab N (n0 + 30)) N Try.f11 α [.agg [.int .i64 d,.ro LsSh A,.ro LsSh B],.agg [.int .i64 e,.int .i64 l,.int .i64 t]] k =
 bif (bif rvB (d,A,B) then (0:Int) else 2)==0 then bif !(bif stB (e,l,t,()) then (0:Int) else 2)==0 then k (bkX 2) else bif e==0 then k (bkX 9) else bif hmB t then bif
 hpD 13 (d,A,B) (nxG e l t 0) [] then bif hmB t then bif hpD 13 (d,A,B) (nxG e l t 1) (wv (d,A,B) (nxG e l t 0) []) then bif t==1 then bkT (IntKind.i64.wrap ((bkG (d,A,B) e
 l t 1).1 - (bkG (d,A,B) e l t 0).2.1)) (IntKind.i64.wrap ((bkG (d,A,B) e l t 1).2.1 - (bkG (d,A,B) e l t 0).1)) k else bkT (IntKind.i64.wrap ((bkG (d,A,B) e l t 0).1 - (bkG
 (d,A,B) e l t 1).2.1)) (IntKind.i64.wrap ((bkG (d,A,B) e l t 0).2.1 - (bkG (d,A,B) e l t 1).1)) k else none else none else none else none else k (bkX 2):=by kernel_rfl
theorem bkT_eq {α:Type} (a b:Int) (k:AOut→Option α):bkT a b k=k (.ret (.tup [.int .i64 a,.int .i64 b,.int .i64 (bkW a b),.int .i64 0])):=by
 unfold bkT bkW
 cases decide (a > 0)
 ·cases decide (b < 0)<;>rfl
 ·rfl
noncomputable def kbkS:Fsp:=fun _ args k=>match args with
 | [.agg [.int .i64 d,.ro (.sl (.int .i64)) A,.ro (.sl (.int .i64)) B],.agg [.int .i64 e,.int .i64 l,.int .i64 t]]=>k (.ret (.tup [.int .i64 (bqL d A B e l t),.int .i64 (bqH d A B e l t),.int .i64 (bqW d A B e l t),.int .i64 (bqE d A B e l t)]))
 | _=>none
theorem kbkS_ok:FspOk Try.prog 11 kbkS:=tower_Y fsK5_ok spK_ok ⟨Try.func11,fun _ _=>by kernel_rfl⟩ (by intro α args k; unfold kbkS; split<;>rfl) fun args out hSm hEq=>by
 unfold kbkS at hEq
 split at hEq
 ·rename_i d A B e l t
  replace hEq:=(congrArg some (bkO_eq d A B e l t)).trans hEq
  refine ⟨20,30,((kbk_text 20 0 AOut d A B e l t some).trans ((rs_parts d A B e l t _ _).trans ?_)).trans hEq⟩
  unfold bkO
  cases hr:rsB d A B e l t
  ·rfl
  rw [cond_true,cond_true]
  unfold rsB at hr
  rw [Bool.and_eq_true] at hr
  cases he:e==0
  case true=>rfl
  have h0:0 < e:=by
   have:=(stB_in hr.2).1.1
   have:e≠0:=beq_eq_false_iff_ne.1 he
   simp only at *
   omega
  rw [cond_false,cond_false,stB_hm hr.2,hpD_nil hr.1 (nx_st hr.2 h0) rfl,hpD_nil hr.1 (nx_st hr.2 h0) (gd_wv _ _ rfl),cond_true,cond_true,cond_true,cond_true,bkT_eq,bkT_eq]
  unfold bkL bkH bkP bkQ
  cases t==1<;>rfl
 ·cases hEq
/-! The best one. -/
noncomputable def fsK6:FuncId→Option Fsp:=fun g=>
 if g=6 then some kvaS else
 if g=11 then some kbkS else
 fsK5 g
theorem fsK6_ok:FsOk fsK6:=
 fs_cons kvaS_ok <|
 fs_cons kbkS_ok <|
 fsK5_ok
noncomputable def fsK7:FuncId→Option Fsp:=fun g=>
 fsK6 g
theorem fsK7_ok:FsOk fsK7:=
 fsK6_ok
abbrev FxSh:Sh:=.int .i64
abbrev MqSh:Sh:=.mp GsSh FxSh
abbrev MqI:=List (GsI × Int)
abbrev mqT:TypeId:=39
abbrev mqR (M:MqI):ABlk:=.row true mqT MqSh M
def bwB (r:RvI) (dn od:Bool) (m:Nat):ABlk:=.box true [.int .i64 r.1,.ro LsSh r.2.1,.ro LsSh r.2.2,.bool dn,.bool od,.own m]
def bwH (r:RvI) (dn od:Bool) (M:MqI):List ABlk:=[bwB r dn od 1,mqR M]
def bwAt (h:List ABlk) (b:Nat):Option (RvI × Bool × Bool × MqI × Nat):=
 match h.getD b .dead with
 | .box true [.int .i64 d,.ro (.sl (.int .i64)) A,.ro (.sl (.int .i64)) B,.bool dn,.bool od,.own m]=>
   match h.getD m .dead with
   | .row true t (.mp (.recd (.cons (.int .i64) (.cons (.int .i64) (.cons (.int .i64) .nil)))) (.int .i64)) M=>if t=mqT∧m≠b then some ((d,A,B),dn,od,M,m) else none
   | _=>none
 | _=>none
def bwM (h:List ABlk) (b m:Nat) (r:RvI) (dn od:Bool) (M:MqI):List ABlk:=((h.set m .dead).set b (bwB r dn od h.length))++[mqR M]
def bwX (D:RvI→Bool→GsI→MqI→Bool) (V:RvI→Bool→GsI→MqI→Int) (O:RvI→Bool→GsI→MqI→Bool) (W:RvI→Bool→GsI→MqI→MqI):Cv→Cv:=fun _ _ v args h k=>
 match v,args with
 | .fn f [],[.op b 0,.agg [.int .i64 e,.int .i64 l,.int .i64 t]]=>
   if f=8 then
    match bwAt h b with
    | some (r,dn,od,M,m)=>bif !od&&D r dn (e,l,t,()) M then k .normal (.int .i64 (V r dn (e,l,t,()) M)) (bwM h b m r dn (O r dn (e,l,t,()) M) (W r dn (e,l,t,()) M)) else none
    | none=>none
   else none
 | _,_=>none
noncomputable def spBw (D:RvI→Bool→GsI→MqI→Bool) (V:RvI→Bool→GsI→MqI→Int) (O:RvI→Bool→GsI→MqI→Bool) (W:RvI→Bool→GsI→MqI→MqI):FuncId→Option (Cv→Cv):=fun g=>
 if g=8 then some (bwX D V O W) else spK g
end Go.Proofs.Ytneggblnfobfcaa
