/- Parts of the proof, in build order. -/
import Derived.Test.YtpigibmlkgjdkaaGreatM6
import Derived.Test.YtpigibmlkgjdkaaGreatM9
import Derived.Test.YtpigibmlkgjdkaaGreatM8
namespace Go.Proofs.YtpigibmlkgjdkaaGreat
open Go.RowKit
abbrev lN (l:List Int):AVal:=.ro (.int .i64) l
def l1 (l:List Int):AOut:=.ret (.ro (.int .i64) l)
theorem w64 (n:Int) (h:-9223372036854775808≤n∧n≤9223372036854775807):IntKind.i64.wrap n=n:=by rw [IntKind.wrap_i64]; omega
theorem mlx:maxLen=9223372036854775807:=rfl
theorem roomx:room=140737488355328:=rfl
theorem snoc_ind {P:List Int→Prop} (h0:P []) (h1:∀ l y,P l→P (l++[y])) (l:List Int):P l:=by
 rw [← List.reverse_reverse l]
 induction l.reverse with
 | nil=>exact h0
 | cons a r ih=>rw [List.reverse_cons]; exact h1 _ _ ih
theorem dg_drop:∀ (i:Nat) (n:Int),0≤n→(dg n).drop i=dg (n / 32768 ^ i)
 | 0,n,_=>by simp
 | i + 1,n,h=>by
   rcases Int.lt_or_le 0 n with hp | hp
   ·rw [dg_pos hp,List.drop_succ_cons,dg_drop i _ (by omega),Int.pow_succ,Int.mul_comm (32768 ^ i) 32768,Int.ediv_ediv_of_nonneg (by omega)]
   ·have:n=0:=by omega
    subst this
    simp [dg_zero]
def ofS:Fsp:=fun _ args k=>match args with
 | [.int .i64 n]=>bif decide (0≤n)&&decide (n≤9223372036854775807) then k (l1 (dg n)) else none
 | _=>none
theorem of_text (N n0:Nat) (α:Type) (n:Int) (k:AOut→Option α):evFn real tab ((twT (fun _=>none) (fun _=>none)).env real tab N n0) N Tryz.f138 α [iN n] k =
 afterL (iterL N (fun (x:List Int × Int × Unit)=>bif decide (x.2.1 > 0) then if (x.1.length + [x.2.1.tmod 32768].length) * 8≤room then some (LRes.cont (x.1++[x.2.1.tmod
 32768],IntKind.i64.wrap (x.2.1.tdiv 32768),())) else none else some (LRes.brk 0 (x.1,x.2.1,()))) ([],n,())) fun id y=>if id=0 then k (l1 y.1) else none:=by kernel_rfl
theorem of_plain {α:Type} (n:Int) (h:0≤n∧n≤9223372036854775807) (k:AOut→Option α):evFn real tab ((twT (fun _=>none) (fun _=>none)).env real tab 20 0) 20 Tryz.f138 α [iN n] k=k (l1 (dg n)):=by
 rw [of_text]
 generalize hf:(fun x:List Int × Int × Unit=>(_:Option (LRes (List Int × Int × Unit) α)))=f
 have hlen:=dg_len (n:=n) ⟨h.1,by omega⟩
 have hz:n / 32768 ^ (dg n).length=0:=by
  have:=dg_drop (dg n).length n h.1
  rw [List.drop_length] at this
  exact (dg_nil (Int.ediv_nonneg h.1 (Int.le_of_lt (pow15 _)))).1 this.symm
 have e:iterL 20 f ([],n,())=some (.brk 0 (dg n,0,())):=by
  refine (congrArg (iterL 20 f) (by simp)).trans (iterL_count (f:=f) (fun i:Nat=>((dg n).take i,n / 32768 ^ i,())) (fun y e=>by cases e) (dg n).length (fun i hi=>?_) ?_ 0 (Nat.zero_le _) 20 (by omega))
  ·rw [← hf]
   have hm:0≤n / 32768 ^ i:=Int.ediv_nonneg h.1 (Int.le_of_lt (pow15 i))
   have hd:=dg_drop i n h.1
   have hne:n / 32768 ^ i≠0:=fun e=>by
    rw [e,dg_zero] at hd
    have:=congrArg List.length hd
    simp at this; omega
   have hle:n / 32768 ^ i≤n:=Int.ediv_le_self _ h.1
   rw [dg_pos (n:=n / 32768 ^ i) (by omega)] at hd
   have hget:(dg n).getD i 0=n / 32768 ^ i % 32768:=by
    have:=congrArg (fun l=>List.getD l 0 0) hd
    simpa [List.getD_eq_getElem?_getD] using this
   have ht:(dg n).take (i + 1)=(dg n).take i++[n / 32768 ^ i % 32768]:=by
    rw [List.take_add_one,List.getElem?_eq_getElem hi,← hget,List.getD_eq_getElem?_getD,List.getElem?_eq_getElem hi]
    rfl
   have e1:(n / 32768 ^ i).tmod 32768=n / 32768 ^ i % 32768:=Int.tmod_eq_emod_of_nonneg hm
   have e2:(n / 32768 ^ i).tdiv 32768=n / 32768 ^ i / 32768:=Int.tdiv_eq_ediv_of_nonneg hm
   simp only [decide_eq_true (show n / 32768 ^ i > 0 by omega),cond_true,e1,e2]
   rw [if_pos (by rw [roomx]; simp; omega),w64 _ (by omega),← ht,Int.ediv_ediv_of_nonneg (Int.le_of_lt (pow15 i)),← Int.pow_succ]
  ·rw [← hf]
   simp only [hz,List.take_length]
   rfl
 rw [e]
 rfl
theorem ofS_ok:FspOk Tryz.prog 138 ofS:=tower_S fs_nil sp_nil ⟨Tryz.func138,fun _ _=>by kernel_rfl⟩ (by intro α args k; unfold ofS; split<;>simp only [cond_bind,Option.bind_some,Option.bind_none]) fun args out hs h=>by
 unfold ofS at h
 split at h
 ·rename_i n
  cases hb:decide (0≤n)&&decide (n≤9223372036854775807)
  ·rw [hb] at h; cases h
  ·rw [hb] at h
   simp only [Bool.and_eq_true,decide_eq_true_eq] at hb
   exact ⟨20,0,(of_plain n hb some).trans h⟩
 ·cases h
def trimS:Fsp:=fun _ args k=>match args with
 | [.ro (.int .i64) l]=>k (l1 (trimL l))
 | _=>none
theorem trim_text (N n0:Nat) (α:Type) (a:List Int) (k:AOut→Option α):evFn real tab ((twT (fun _=>none) (fun _=>none)).env real tab N n0) N Tryz.f177 α [lN a] k =
 afterL (iterL N (fun (x:List Int × Unit)=>bif decide ((x.1.length:Int) > 0) then if 0≤IntKind.i64.wrap ((x.1.length:Int) - 1)∧IntKind.i64.wrap ((x.1.length:Int) - 1) <
 (x.1.length:Int) then bif x.1.getD (IntKind.i64.wrap ((x.1.length:Int) - 1)).toNat (Int.ofNat 0)==0 then if 0≤IntKind.i64.wrap ((x.1.length:Int) - 1)∧IntKind.i64.wrap
 ((x.1.length:Int) - 1)≤(x.1.length:Int) then some (LRes.cont (List.take (IntKind.i64.wrap ((x.1.length:Int) - 1)).toNat x.1,())) else none else some (LRes.brk 0 (x.1,()))
 else none else some (LRes.brk 0 (x.1,()))) (a,())) fun id y=>if id=0 then k (l1 y.1) else none:=by kernel_rfl
theorem trim_plain {α:Type} (a:List Int) (hl:a.length≤maxLen) (k:AOut→Option α):evFn real tab ((twT (fun _=>none) (fun _=>none)).env real tab (a.length + 1) 0) (a.length + 1) Tryz.f177 α [lN a] k=k (l1 (trimL a)):=by
 rw [trim_text]
 generalize hf:(fun x:List Int × Unit=>(_:Option (LRes (List Int × Unit) α)))=f
 have key:∀ l:List Int,l.length≤maxLen→∀ N,l.length < N→iterL N f (l,())=some (.brk 0 (trimL l,())):=by
  refine snoc_ind (fun _ N hN=>?_) (fun l y ih hlen N hN=>?_)
  ·obtain ⟨M,rfl⟩:∃ M,N=M + 1:=⟨N - 1,by simp at hN; omega⟩
   have:f ([],())=some (.brk 0 ([],())):=by rw [← hf]; rfl
   simp only [iterL,this]
   rfl
  ·obtain ⟨M,rfl⟩:∃ M,N=M + 1:=⟨N - 1,by omega⟩
   rw [List.length_append,List.length_singleton] at hlen hN
   rw [mlx] at hlen ih
   have hfl:f (l++[y],())=bif y==0 then some (.cont (l,())) else some (.brk 0 (l++[y],())):=by
    rw [← hf]
    have e1:(((l++[y]).length:Nat):Int) - 1=(l.length:Int):=by simp
    simp only [e1]
    have hL:(((l++[y]).length:Nat):Int)=(l.length:Int) + 1:=by simp
    rw [w64 (l.length:Int) (by omega),decide_eq_true (show (((l++[y]).length:Nat):Int) > 0 by rw [hL]; omega),cond_true,if_pos ⟨by omega,by rw [hL]; omega⟩,if_pos ⟨by omega,by rw [hL]; omega⟩]
    have e2:(l++[y]).getD ((l.length:Int)).toNat (Int.ofNat 0)=y:=by simp [List.getD_eq_getElem?_getD]
    have e3:List.take ((l.length:Int)).toNat (l++[y])=l:=by simp
    rw [e2,e3]
   simp only [iterL,hfl]
   by_cases hy:y=0
   ·subst hy
    rw [beq_self_eq_true,cond_true,trimL_app0]
    exact ih (by omega) M (by omega)
   ·rw [beq_eq_false_iff_ne.2 hy,cond_false,trimL_last _ _ hy]
 rw [key a hl _ (by omega)]
 rfl
theorem trimS_ok:FspOk Tryz.prog 177 trimS:=tower_S fs_nil sp_nil ⟨Tryz.func177,fun _ _=>by kernel_rfl⟩ (by intro α args k; unfold trimS; split<;>rfl) fun args out hs h=>by
 unfold trimS at h
 split at h
 ·rename_i l
  exact ⟨_,0,(trim_plain l (hs _ (by simp)).len some).trans h⟩
 ·cases h
theorem isD_small {l:List Int} (h:isD l=true):(l.length≤4↔vl l < 1152921504606846976):=by
 have h4:(32768:Int) ^ 4=1152921504606846976:=by decide
 have hlow:=isD_low h
 constructor
 ·intro hl
  have:=vl_lt hlow
  have:=pow_mono hl
  omega
 ·intro hv
  rcases Nat.lt_or_ge l.length 5 with h5 | h5
  ·omega
  ·rw [isD_iff] at h
   have hz:vl l≠0:=fun e=>by have:=h.1; rw [e,dg_zero] at this; rw [this] at h5; simp at h5
   have h2:=dg_ge (vl l) h.2.1 hz
   rw [← h.1] at h2
   have:=pow_mono (show 4≤l.length - 1 by omega)
   omega
def smB (n:Int):Bool:=decide (n < 1152921504606846976)
def numberS:Fsp:=fun _ args k=>match args with
 | [.ro (.int .i64) l]=>bif isD l then k (.ret (.tup [iN (bif smB (vl l) then vl l else 0),bN (smB (vl l))])) else none
 | _=>none
theorem number_text (N n0:Nat) (α:Type) (a:List Int) (k:AOut→Option α):evFn real tab ((twT (fun _=>none) (fun _=>none)).env real tab N n0) N Tryz.f181 α [lN a] k =
 bif decide ((a.length:Int) > 4) then k (.ret (.tup [iN 0,bN false])) else afterL (iterL N (fun (x:Int × Int × Unit)=>bif decide (x.2.1 ≥ 0) then if 0≤x.2.1∧x.2.1 <
 (a.length:Int) then some (LRes.cont (IntKind.i64.wrap (IntKind.i64.wrap (32768 * x.1) + a.getD x.2.1.toNat (Int.ofNat 0)),IntKind.i64.wrap (x.2.1 - 1),())) else none else some
 (LRes.brk 0 (x.1,x.2.1,()))) (0,IntKind.i64.wrap ((a.length:Int) - 1),())) fun id y=>if id=0 then k (.ret (.tup [iN y.1,bN true])) else none:=by kernel_rfl
theorem number_plain {α:Type} (a:List Int) (h:isD a=true) (k:AOut→Option α):evFn real tab ((twT (fun _=>none) (fun _=>none)).env real tab 20 0) 20 Tryz.f181 α [lN a] k=k (.ret (.tup [iN (bif smB (vl a) then vl a else 0),bN (smB (vl a))])):=by
 rw [number_text]
 have hs:=isD_small h
 have hlow:=isD_low h
 by_cases hl:a.length≤4
 ·have hv:=hs.1 hl
  have e0:smB (vl a)=true:=decide_eq_true hv
  rw [decide_eq_false (show ¬ (a.length:Int) > 4 by omega),cond_false,e0,cond_true]
  generalize hf:(fun x:Int × Int × Unit=>(_:Option (LRes (Int × Int × Unit) α)))=f
  have e:iterL 20 f (0,IntKind.i64.wrap ((a.length:Int) - 1),())=some (.brk 0 (vl a,-1,())):=by
   refine (congrArg (iterL 20 f) ?_).trans (iterL_count (f:=f) (fun j:Nat=>(vl (a.drop (a.length - j)),(a.length:Int) - 1 - j,())) (fun y e=>by cases e) a.length (fun j hj=>?_) ?_ 0 (Nat.zero_le _) 20 (by omega))
   ·rw [w64 _ (by omega)]; simp [vl]
   ·rw [← hf]
    have hi:((a.length:Int) - 1 - j).toNat=a.length - 1 - j:=by omega
    have hlt:a.length - 1 - j < a.length:=by omega
    have hd:a.drop (a.length - (j + 1))=a.getD (a.length - 1 - j) 0 :: a.drop (a.length - j):=by
     rw [show a.length - (j + 1)=a.length - 1 - j by omega,List.drop_eq_getElem_cons hlt,List.getD_eq_getElem?_getD,List.getElem?_eq_getElem hlt,show a.length - 1 - j + 1=a.length - j by omega]
     rfl
    have hb:=low_get hlow (a.length - 1 - j)
    have h0:=vl_nn (low_drop hlow (a.length - j))
    have h1:=vl_lt (low_drop hlow (a.length - j))
    have h2:=pow_mono (show (a.drop (a.length - j)).length≤3 by simp; omega)
    have h3:(32768:Int) ^ 3=35184372088832:=by decide
    simp only [decide_eq_true (show (a.length:Int) - 1 - j ≥ 0 by omega),cond_true,hi,hd,vl,show Int.ofNat 0=0 from rfl]
    rw [if_pos ⟨by omega,by omega⟩,w64 (32768 * _) (by omega),w64 _ (by omega),w64 _ (by omega)]
    congr 3
    ·omega
    ·congr 1; omega
   ·rw [← hf]
    simp only [decide_eq_false (show ¬ (a.length:Int) - 1 - a.length ≥ 0 by omega),cond_false,Nat.sub_self,List.drop_zero]
    rw [show (a.length:Int) - 1 - a.length=-1 by omega]
  rw [e]
  rfl
 ·have hv:¬ vl a < 1152921504606846976:=fun c=>hl (hs.2 c)
  have e0:smB (vl a)=false:=decide_eq_false hv
  rw [decide_eq_true (show (a.length:Int) > 4 by omega),cond_true,e0]
  rfl
theorem numberS_ok:FspOk Tryz.prog 181 numberS:=tower_S fs_nil sp_nil ⟨Tryz.func181,fun _ _=>by kernel_rfl⟩ (by intro α args k; unfold numberS; split<;>simp only [cond_bind,Option.bind_some,Option.bind_none]) fun args out hs h=>by
 unfold numberS at h
 split at h
 ·rename_i l
  cases hb:isD l
  ·rw [hb] at h; cases h
  ·rw [hb] at h
   exact ⟨20,0,(number_plain l hb some).trans h⟩
 ·cases h
def orderS:Fsp:=fun _ args k=>match args with
 | [.ro (.int .i64) a,.ro (.int .i64) b]=>bif isD a&&isD b then k (i1 (cmp3 (vl a) (vl b))) else none
 | _=>none
theorem order_text (N n0:Nat) (α:Type) (a b:List Int) (k:AOut→Option α):evFn real tab ((twT (fun _=>none) (fun _=>none)).env real tab N n0) N Tryz.f140 α [lN a,lN b] k =
 bif decide ((a.length:Int) < (b.length:Int)) then k (i1 (-1)) else bif decide ((a.length:Int) > (b.length:Int)) then k (i1 1) else afterL (iterL N (fun (x:Int × Unit)=>
 bif decide (x.1 ≥ 0) then if 0≤x.1∧x.1 < (a.length:Int) then if 0≤x.1∧x.1 < (b.length:Int) then bif decide (a.getD x.1.toNat (Int.ofNat 0) < b.getD x.1.toNat (Int.ofNat
 0)) then finL (k (i1 (-1))) else if 0≤x.1∧x.1 < (a.length:Int) then if 0≤x.1∧x.1 < (b.length:Int) then bif decide (a.getD x.1.toNat (Int.ofNat 0) > b.getD x.1.toNat
 (Int.ofNat 0)) then finL (k (i1 1)) else some (LRes.cont (IntKind.i64.wrap (x.1 - 1),())) else none else none else none else none else some (LRes.brk 0 (x.1,())))
 (IntKind.i64.wrap ((a.length:Int) - 1),())) fun id _=>if id=0 then k (i1 0) else none:=by kernel_rfl
theorem drop_eq {l m:List Int} (hl:m.length=l.length) {i:Nat} (h:∀ j,i≤j→j < l.length→l.getD j 0=m.getD j 0):l.drop i=m.drop i:=by
 apply List.ext_getElem
 ·simp [hl]
 ·intro j h1 h2
  simp only [List.length_drop] at h1 h2
  have:=h (i + j) (by omega) (by omega)
  rw [List.getD_eq_getElem?_getD,List.getD_eq_getElem?_getD,List.getElem?_eq_getElem (by omega),List.getElem?_eq_getElem (by omega)] at this
  simpa using this
theorem order_plain {α:Type} (a b:List Int) (ha:isD a=true) (hb:isD b=true) (k:AOut→Option α):evFn real tab ((twT (fun _=>none) (fun _=>none)).env real tab (a.length + 1) 0) (a.length + 1) Tryz.f140 α [lN a,lN b] k=k (i1 (cmp3 (vl a) (vl b))):=by
 rw [order_text]
 have la:=isD_len ha
 have lb:=isD_len hb
 rw [isD_iff] at ha hb
 obtain ⟨ea,a0,a1⟩:=ha
 obtain ⟨eb,b0,b1⟩:=hb
 generalize vl a=A at *
 generalize vl b=B at *
 subst ea; subst eb
 unfold cmp3
 by_cases h1:(dg A).length < (dg B).length
 ·rw [decide_eq_true (by omega),cond_true,if_pos (dg_len_lt a0 b0 h1)]
 ·rw [decide_eq_false (by omega),cond_false]
  by_cases h2:(dg B).length < (dg A).length
  ·have:=dg_len_lt b0 a0 h2
   rw [decide_eq_true (by omega),cond_true,if_neg (by omega),if_pos this]
  ·have hl:(dg B).length=(dg A).length:=by omega
   rw [decide_eq_false (by omega),cond_false]
   generalize hf:(fun x:Int × Unit=>(_:Option (LRes (Int × Unit) α)))=f
   have e:=iterL_find (f:=f) (fun j:Nat=>(((dg A).length:Int) - 1 - j,())) (fun j=>(dg A).getD ((dg A).length - 1 - j) 0 != (dg B).getD ((dg A).length - 1 - j) 0)
    (R:=fun j=>if (dg A).getD ((dg A).length - 1 - j) 0 < (dg B).getD ((dg A).length - 1 - j) 0 then finL (k (i1 (-1))) else finL (k (i1 1))) (E:=some (.brk 0 (-1,())))
    (fun i y=>by split<;>exact fin_not _ y) (brk_not _ _) (dg A).length (fun j hj=>?_) ?_
   ·have e0:(((dg A).length:Int) - 1 - ((0:Nat):Int),())=(IntKind.i64.wrap (((dg A).length:Int) - 1),()):=by rw [w64 _ (by omega)]; simp
    rw [e0] at e
    rw [e]
    cases hq:(List.range (dg A).length).find? fun j=>(dg A).getD ((dg A).length - 1 - j) 0 != (dg B).getD ((dg A).length - 1 - j) 0 with
    | none=>
      rw [List.find?_eq_none] at hq
      have heq:(dg A).drop 0=(dg B).drop 0:=drop_eq hl fun j _ hj=>by
       have:=hq ((dg A).length - 1 - j) (List.mem_range.2 (by omega))
       rw [show (dg A).length - 1 - ((dg A).length - 1 - j)=j by omega] at this
       simpa using this
      have:A=B:=dg_eq a0 b0 heq
      rw [if_neg (by omega),if_neg (by omega)]
      rfl
    | some j=>
      have hj:=List.mem_range.1 (List.mem_of_find?_eq_some hq)
      have hne:=List.find?_some hq
      simp only [bne_iff_ne,ne_eq] at hne
      have hdrop:(dg A).drop ((dg A).length - 1 - j + 1)=(dg B).drop ((dg A).length - 1 - j + 1):=drop_eq hl fun i hi hi2=>by
       have hb:=(List.find?_range_eq_some.1 hq).2.2 ((dg A).length - 1 - i) (by omega)
       rw [show (dg A).length - 1 - ((dg A).length - 1 - i)=i by omega] at hb
       simpa using hb
      dsimp only
      by_cases hlt:(dg A).getD ((dg A).length - 1 - j) 0 < (dg B).getD ((dg A).length - 1 - j) 0
      ·rw [if_pos hlt,if_pos (dg_top a0 b0 (by omega) (by omega) hdrop hlt)]
       cases k (i1 (-1))<;>rfl
      ·have:=dg_top b0 a0 (i:=(dg A).length - 1 - j) (by omega) (by omega) hdrop.symm (by omega)
       rw [if_neg hlt,if_neg (by omega),if_pos this]
       cases k (i1 1)<;>rfl
   ·rw [← hf]
    have hi:(((dg A).length:Int) - 1 - j).toNat=(dg A).length - 1 - j:=by omega
    simp only [decide_eq_true (show ((dg A).length:Int) - 1 - j ≥ 0 by omega),cond_true,hi,show Int.ofNat 0=0 from rfl]
    rw [if_pos ⟨by omega,by omega⟩,if_pos ⟨by omega,by omega⟩,if_pos ⟨by omega,by omega⟩,if_pos ⟨by omega,by omega⟩,w64 _ (by omega)]
    generalize (dg A).getD ((dg A).length - 1 - j) 0=u
    generalize (dg B).getD ((dg A).length - 1 - j) 0=v
    by_cases c1:u < v
    ·rw [decide_eq_true c1,if_pos c1,show (u != v)=true by simp; omega]; rfl
    ·rw [decide_eq_false c1,if_neg c1]
     by_cases c2:u > v
     ·rw [decide_eq_true c2,show (u != v)=true by simp; omega]; rfl
     ·rw [decide_eq_false c2,show (u != v)=false by simp; omega,cond_false,cond_false,cond_false,show ((dg A).length:Int) - 1 - j - 1=((dg A).length:Int) - 1 - ((j + 1:Nat):Int) by omega]
   ·rw [← hf]
    simp only [decide_eq_false (show ¬ ((dg A).length:Int) - 1 - (dg A).length ≥ 0 by omega),cond_false]
    rw [show ((dg A).length:Int) - 1 - (dg A).length=-1 by omega]
theorem orderS_ok:FspOk Tryz.prog 140 orderS:=tower_S fs_nil sp_nil ⟨Tryz.func140,fun _ _=>by kernel_rfl⟩ (by intro α args k; unfold orderS; split<;>simp only [cond_bind,Option.bind_some,Option.bind_none]) fun args out hs h=>by
 unfold orderS at h
 split at h
 ·rename_i a b
  cases hb:isD a&&isD b
  ·rw [hb] at h; cases h
  ·rw [hb] at h
   rw [Bool.and_eq_true] at hb
   exact ⟨_,0,(order_plain a b hb.1 hb.2 some).trans h⟩
 ·cases h
/-! Sums. -/
def plusDS:Fsp:=fun _ args k=>match args with
 | [.ro (.int .i64) a,.ro (.int .i64) b]=>bif isD a&&isD b then k (l1 (dg (vl a + vl b))) else none
 | _=>none
section
variable {σ α:Type}
def plDE (out:List Int) (c i:Int):Option (LRes (List Int × Int × Int × Unit) α):=
 if (out.length + [c.tmod 32768].length) * 8≤room then some (LRes.cont (out++[c.tmod 32768],IntKind.i64.wrap (c.tdiv 32768),IntKind.i64.wrap (i + 1),())) else none
def plB2 (b:List Int) (out:List Int) (c i:Int):Option (LRes (List Int × Int × Int × Unit) α):=
 bif decide (i < (b.length:Int)) then
  if 0≤i∧i < (b.length:Int) then plDE out (IntKind.i64.wrap (c + b.getD i.toNat (Int.ofNat 0))) i else none
 else plDE out c i
def plB1 (a b:List Int) (out:List Int) (c i:Int):Option (LRes (List Int × Int × Int × Unit) α):=
 bif decide (i < (a.length:Int)) then
  if 0≤i∧i < (a.length:Int) then plB2 b out (IntKind.i64.wrap (c + a.getD i.toNat (Int.ofNat 0))) i else none
 else plB2 b out c i
end
theorem plusD_text (N n0:Nat) (α:Type) (a b:List Int) (k:AOut→Option α):evFn real tab ((twT (fun _=>none) (fun _=>none)).env real tab N n0) N Tryz.f176 α [lN a,lN b] k =
 afterL (iterL N (fun (x:List Int × Int × Int × Unit)=>bif decide (x.2.2.1 < (a.length:Int)) then plB1 a b x.1 x.2.1 x.2.2.1 else bif decide (x.2.2.1 < (b.length:Int)) then
 plB1 a b x.1 x.2.1 x.2.2.1 else bif decide (x.2.1 > 0) then plB1 a b x.1 x.2.1 x.2.2.1 else some (LRes.brk 0 (x.1,x.2.1,x.2.2.1,()))) ([],0,0,())) fun id y=>if id=0 then k
 (l1 y.1) else none:=by kernel_rfl
theorem plB_step {α:Type} {a b:List Int} (ha:low15 a) (hb:low15 b) {i:Nat} (hi:i≤20):plB1 (α:=α) a b (plSt a b i).2 (plSt a b i).1 i=some (.cont ((plSt a b (i + 1)).2,(plSt a b (i + 1)).1,((i + 1:Nat):Int),())):=by
 have h:=pl_is ha hb i
 have hl:=h.len
 have hc:=h.c
 have h2:=low_get ha i
 have h3:=low_get hb i
 have fin:∀ c:Int,c=plC a b (plSt a b i) i→plDE (α:=α) (plSt a b i).2 c i=some (.cont ((plSt a b (i + 1)).2,(plSt a b (i + 1)).1,((i + 1:Nat):Int),())):=fun c e=>by
  have hcc:0≤c∧c < 65536:=by rw [e]; unfold plC; omega
  unfold plDE
  rw [Int.tmod_eq_emod_of_nonneg hcc.1,Int.tdiv_eq_ediv_of_nonneg hcc.1,w64 (c / 32768) (by omega),w64 ((i:Int) + 1) (by omega),if_pos (by rw [roomx,hl]; simp; omega),e]
  rfl
 have second:∀ c:Int,c=(plSt a b i).1 + a.getD i 0→plB2 (α:=α) b (plSt a b i).2 c i=some (.cont ((plSt a b (i + 1)).2,(plSt a b (i + 1)).1,((i + 1:Nat):Int),())):=fun c e=>by
  unfold plB2
  by_cases hlt:i < b.length
  ·rw [decide_eq_true (by omega),cond_true,if_pos ⟨by omega,by omega⟩]
   refine fin _ ?_
   show IntKind.i64.wrap (c + b.getD i 0)=_
   rw [w64 _ (by omega),e]; rfl
  ·rw [decide_eq_false (by omega),cond_false]
   refine fin _ ?_
   have:b.getD i 0=0:=by rw [List.getD_eq_getElem?_getD,List.getElem?_eq_none (by omega)]; rfl
   rw [e]; unfold plC; omega
 unfold plB1
 by_cases hlt:i < a.length
 ·rw [decide_eq_true (by omega),cond_true,if_pos ⟨by omega,by omega⟩]
  refine second _ ?_
  show IntKind.i64.wrap ((plSt a b i).1 + a.getD i 0)=_
  rw [w64 _ (by omega)]
 ·rw [decide_eq_false (by omega),cond_false]
  refine second _ ?_
  have:a.getD i 0=0:=by rw [List.getD_eq_getElem?_getD,List.getElem?_eq_none (by omega)]; rfl
  omega
theorem dg_last {n:Int} (h:0≤n) {i:Nat} (hi:i + 1=(dg n).length):0 < (dg n).getD i 0:=by
 have hz:n≠0:=fun e=>by subst e; simp [dg_zero] at hi
 have h1:=dg_ge n h hz
 have h2:=vl_split (dg n) i (by omega)
 have h3:=vl_lt (low_take (low_dg n h) i)
 rw [vl_dg n h] at h2
 have h4:(dg n).drop i=[(dg n).getD i 0]:=by
  rw [List.drop_eq_getElem_cons (by omega),List.getD_eq_getElem?_getD,List.getElem?_eq_getElem (by omega),List.drop_of_length_le (by omega)]
  rfl
 rw [h4] at h2
 simp only [vl] at h2
 have h5:=(low_get (low_dg n h) i).1
 rcases Int.lt_or_le 0 ((dg n).getD i 0) with q | q
 ·exact q
 ·have:(dg n).getD i 0=0:=by omega
  rw [this] at h2
  rw [← hi,Nat.add_sub_cancel] at h1
  rw [List.length_take,Nat.min_eq_left (by omega)] at h3
  omega
theorem plusD_plain {α:Type} (a b:List Int) (ha:isD a=true) (hb:isD b=true) (k:AOut→Option α):evFn real tab ((twT (fun _=>none) (fun _=>none)).env real tab 30 0) 30 Tryz.f176 α [lN a,lN b] k=k (l1 (dg (vl a + vl b))):=by
 rw [plusD_text]
 have la:=isD_len ha
 have lb:=isD_len hb
 have wa:=isD_low ha
 have wb:=isD_low hb
 rw [isD_iff] at ha hb
 generalize hf:(fun x:List Int × Int × Int × Unit=>(_:Option (LRes (List Int × Int × Int × Unit) α)))=f
 -- how many parts there are
 let n0:=max a.length b.length
 have hn0:a.length≤n0∧b.length≤n0∧n0≤12:=⟨Nat.le_max_left ..,Nat.le_max_right ..,by simp only [n0]; omega⟩
 have P:=pl_is wa wb n0
 have hv:=P.vl
 rw [List.take_of_length_le hn0.1,List.take_of_length_le hn0.2.1] at hv
 have hgo:∀ i,i < n0→f ((plSt a b i).2,(plSt a b i).1,(i:Int),())=some (.cont ((plSt a b (i + 1)).2,(plSt a b (i + 1)).1,((i + 1:Nat):Int),())):=fun i hi=>by
  rw [← hf]
  dsimp only
  rw [plB_step wa wb (by omega)]
  have:i < a.length∨i < b.length:=by simp only [n0] at hi; omega
  rcases this with h | h
  ·rw [decide_eq_true (by omega),cond_true]
  ·rw [decide_eq_true (show (i:Int) < (b.length:Int) by omega),cond_true]
   cases decide ((i:Int) < (a.length:Int))<;>rfl
 have hend:∀ n:Nat,n0≤n→n≤14→(plSt a b n).1=0→f ((plSt a b n).2,(plSt a b n).1,(n:Int),())=some (.brk 0 ((plSt a b n).2,(plSt a b n).1,(n:Int),())):=fun n h1 h2 h3=>by
  rw [← hf]
  dsimp only
  rw [decide_eq_false (by omega),decide_eq_false (show ¬ (n:Int) < (b.length:Int) by omega),h3]
  rfl
 have hc:=P.c
 by_cases hz:(plSt a b n0).1=0
 ·have e:iterL 30 f ([],0,0,())=some (.brk 0 ((plSt a b n0).2,(plSt a b n0).1,(n0:Int),())):=
   iterL_count (f:=f) (fun i:Nat=>((plSt a b i).2,(plSt a b i).1,(i:Int),())) (fun y e=>by cases e) n0 hgo (hend n0 (Nat.le_refl _) (by omega) hz) 0 (Nat.zero_le _) 30 (by omega)
  have hres:(plSt a b n0).2=dg (vl a + vl b):=by
   rw [hz,Int.zero_mul,Int.add_zero] at hv
   rw [← hv]
   rcases Nat.eq_zero_or_pos n0 with h0 | h0
   ·have:=P.len
    rw [h0] at this ⊢
    have hnil:=List.eq_nil_of_length_eq_zero this
    rw [hnil]; rfl
   ·obtain ⟨m,hm⟩:∃ m,n0=m + 1:=⟨n0 - 1,by omega⟩
    have Q:=pl_is wa wb m
    rw [hm] at hz ⊢
    have hl:=Q.len
    have hcc:=Q.c
    have ga:=low_get wa m
    have gb:=low_get wb m
    have htop:0 < a.getD m 0∨0 < b.getD m 0:=by
     have:m + 1=a.length∨m + 1=b.length:=by simp only [n0] at hm; omega
     rcases this with h | h
     ·left; have:=dg_last ha.2.1 (i:=m) (by rw [← ha.1]; exact h); rw [← ha.1] at this; exact this
     ·right; have:=dg_last hb.2.1 (i:=m) (by rw [← hb.1]; exact h); rw [← hb.1] at this; exact this
    have hq:plC a b (plSt a b m) m / 32768=0:=hz
    have hpc:plC a b (plSt a b m) m=(plSt a b m).1 + a.getD m 0 + b.getD m 0:=rfl
    have hs:(plSt a b (m + 1)).2=(plSt a b m).2++[plC a b (plSt a b m) m % 32768]:=rfl
    rw [hs,vl_append]
    exact (dg_snoc Q.low (by omega)).symm
  rw [e,hres]
  rfl
 ·have h1:(plSt a b n0).1=1:=by omega
  have ga:a.getD n0 0=0:=by rw [List.getD_eq_getElem?_getD,List.getElem?_eq_none (by omega)]; rfl
  have gb:b.getD n0 0=0:=by rw [List.getD_eq_getElem?_getD,List.getElem?_eq_none (by omega)]; rfl
  have hpc:plC a b (plSt a b n0) n0=1:=by unfold plC; omega
  have hs:plSt a b (n0 + 1)=(0,(plSt a b n0).2++[1]):=by
   show (plC a b (plSt a b n0) n0 / 32768,(plSt a b n0).2++[plC a b (plSt a b n0) n0 % 32768])=_
   rw [hpc]; rfl
  have e:iterL 30 f ([],0,0,())=some (.brk 0 ((plSt a b (n0 + 1)).2,(plSt a b (n0 + 1)).1,((n0 + 1:Nat):Int),())):=
   iterL_count (f:=f) (fun i:Nat=>((plSt a b i).2,(plSt a b i).1,(i:Int),())) (fun y e=>by cases e) (n0 + 1) (fun i hi=>by
    rcases Nat.lt_or_ge i n0 with h | h
    ·exact hgo i h
    ·have:i=n0:=by omega
     subst this
     rw [← hf]
     dsimp only
     rw [plB_step wa wb (by omega),decide_eq_false (by omega),decide_eq_false (show ¬ (n0:Int) < (b.length:Int) by omega),h1]
     rfl) (hend (n0 + 1) (by omega) (by omega) (by rw [hs])) 0 (Nat.zero_le _) 30 (by omega)
  have hres:(plSt a b (n0 + 1)).2=dg (vl a + vl b):=by
   rw [hs,← hv,h1]
   have hl:=P.len
   have:=dg_snoc P.low (x:=1) (by omega)
   rw [hl] at this
   exact this.symm
  rw [e,hres]
  rfl
theorem plusDS_ok:FspOk Tryz.prog 176 plusDS:=tower_S fs_nil sp_nil ⟨Tryz.func176,fun _ _=>by kernel_rfl⟩ (by intro α args k; unfold plusDS; split<;>simp only [cond_bind,Option.bind_some,Option.bind_none]) fun args out hs h=>by
 unfold plusDS at h
 split at h
 ·rename_i a b
  cases hb:isD a&&isD b
  ·rw [hb] at h; cases h
  ·rw [hb] at h
   rw [Bool.and_eq_true] at hb
   exact ⟨30,0,(plusD_plain a b hb.1 hb.2 some).trans h⟩
 ·cases h
def fnA:FuncId→Option Fsp:=fun g=>
 if g=138 then some ofS else
 if g=177 then some trimS else
 if g=181 then some numberS else
 if g=140 then some orderS else
 if g=176 then some plusDS else
 none
theorem fnA_ok:FsOk fnA:=
 fs_cons ofS_ok <|
 fs_cons trimS_ok <|
 fs_cons numberS_ok <|
 fs_cons orderS_ok <|
 fs_cons plusDS_ok <|
 fs_nil
def minusDS:Fsp:=fun _ args k=>match args with
 | [.ro (.int .i64) a,.ro (.int .i64) b]=>bif isD a&&isD b&&decide (vl b≤vl a) then k (l1 (dg (vl a - vl b))) else none
 | _=>none
section
variable {α:Type}
def mnE (out:List Int) (d i:Int):Option (LRes (Int × List Int × Int × Unit) α):=
 bif decide (d < 0) then
  if (out.length + [IntKind.i64.wrap (d + 32768)].length) * 8≤room then some (LRes.cont (1,out++[IntKind.i64.wrap (d + 32768)],IntKind.i64.wrap (i + 1),())) else none
 else
  if (out.length + [d].length) * 8≤room then some (LRes.cont (0,out++[d],IntKind.i64.wrap (i + 1),())) else none
end
theorem minusD_text (N n0:Nat) (α:Type) (a b:List Int) (k:AOut→Option α):evFn real tab ((twT fnA (fun _=>none)).env real tab N n0) N Tryz.f179 α [lN a,lN b] k =
 afterL (iterL N (fun (x:Int × List Int × Int × Unit)=>bif decide (x.2.2.1 < (a.length:Int)) then if 0≤x.2.2.1∧x.2.2.1 < (a.length:Int) then bif decide (x.2.2.1 <
 (b.length:Int)) then if 0≤x.2.2.1∧x.2.2.1 < (b.length:Int) then mnE x.2.1 (IntKind.i64.wrap (IntKind.i64.wrap (a.getD x.2.2.1.toNat (Int.ofNat 0) - x.1) - b.getD
 x.2.2.1.toNat (Int.ofNat 0))) x.2.2.1 else none else mnE x.2.1 (IntKind.i64.wrap (a.getD x.2.2.1.toNat (Int.ofNat 0) - x.1)) x.2.2.1 else none else some (LRes.brk 0 (x.1,x.2.1,
 x.2.2.1,()))) (0,[],0,())) fun id y=>if id=0 then k (l1 (trimL y.2.1)) else none:=by kernel_rfl
theorem minusD_plain {α:Type} (a b:List Int) (ha:isD a=true) (hb:isD b=true) (hab:vl b≤vl a) (k:AOut→Option α):evFn real tab ((twT fnA (fun _=>none)).env real tab 30 0) 30 Tryz.f179 α [lN a,lN b] k=k (l1 (dg (vl a - vl b))):=by
 rw [minusD_text]
 have la:=isD_len ha
 have lb:=isD_len hb
 have wa:=isD_low ha
 have wb:=isD_low hb
 rw [isD_iff] at ha hb
 generalize hf:(fun x:Int × List Int × Int × Unit=>(_:Option (LRes (Int × List Int × Int × Unit) α)))=f
 have e:iterL 30 f (0,[],0,())=some (.brk 0 ((mnSt a b a.length).1,(mnSt a b a.length).2,(a.length:Int),())):=by
  refine iterL_count (f:=f) (fun i:Nat=>((mnSt a b i).1,(mnSt a b i).2,(i:Int),())) (fun y e=>by cases e) a.length (fun i hi=>?_) ?_ 0 (Nat.zero_le _) 30 (by omega)
  ·rw [← hf]
   have h:=mn_is wa wb i
   have hl:=h.len
   have hc:=h.c
   have h2:=low_get wa i
   have h3:=low_get wb i
   have fin:∀ d:Int,d=mnD a b (mnSt a b i) i→mnE (α:=α) (mnSt a b i).2 d i=some (.cont ((mnSt a b (i + 1)).1,(mnSt a b (i + 1)).2,((i + 1:Nat):Int),())):=fun d e=>by
    have hd:-32768≤d∧d < 32768:=by rw [e]; unfold mnD; omega
    unfold mnE
    simp only [mnSt,← e]
    by_cases hn:d < 0
    ·rw [decide_eq_true hn,cond_true,w64 (d + 32768) (by omega),w64 ((i:Int) + 1) (by omega),if_pos (by rw [roomx,hl]; simp; omega),if_pos hn,if_pos hn]
     rfl
    ·rw [decide_eq_false hn,cond_false,w64 ((i:Int) + 1) (by omega),if_pos (by rw [roomx,hl]; simp; omega),if_neg hn,if_neg hn]
     rfl
   dsimp only
   rw [decide_eq_true (by omega),cond_true,if_pos ⟨by omega,by omega⟩]
   by_cases hlt:i < b.length
   ·rw [decide_eq_true (by omega),cond_true,if_pos ⟨by omega,by omega⟩]
    refine fin _ ?_
    show IntKind.i64.wrap (IntKind.i64.wrap (a.getD i 0 - (mnSt a b i).1) - b.getD i 0)=_
    rw [w64 (a.getD i 0 - _) (by omega),w64 _ (by omega)]; rfl
   ·rw [decide_eq_false (by omega),cond_false]
    refine fin _ ?_
    have:b.getD i 0=0:=by rw [List.getD_eq_getElem?_getD,List.getElem?_eq_none (by omega)]; rfl
    show IntKind.i64.wrap (a.getD i 0 - (mnSt a b i).1)=_
    rw [w64 _ (by omega)]; unfold mnD; omega
  ·rw [← hf]
   have h1:decide ((a.length:Int) < (a.length:Int))=false:=decide_eq_false (by omega)
   simp only [h1,cond_false]
 have hm:=mn_dg hb.2.1 hab
 rw [← ha.1,← hb.1] at hm
 rw [e]
 show k (l1 (trimL (mnSt a b a.length).2))=_
 rw [hm]
theorem minusDS_ok:FspOk Tryz.prog 179 minusDS:=tower_S fnA_ok sp_nil ⟨Tryz.func179,fun _ _=>by kernel_rfl⟩ (by intro α args k; unfold minusDS; split<;>simp only [cond_bind,Option.bind_some,Option.bind_none]) fun args out hs h=>by
 unfold minusDS at h
 split at h
 ·rename_i a b
  cases hb:isD a&&isD b&&decide (vl b≤vl a)
  ·rw [hb] at h; cases h
  ·rw [hb] at h
   simp only [Bool.and_eq_true,decide_eq_true_eq] at hb
   exact ⟨30,0,(minusD_plain a b hb.1.1 hb.1.2 hb.2 some).trans h⟩
 ·cases h
/-! Products. -/
def timesDS:Fsp:=fun _ args k=>match args with
 | [.ro (.int .i64) a,.ro (.int .i64) b]=>bif isD a&&isD b then k (l1 (dg (vl a * vl b))) else none
 | _=>none
theorem timesD_text (N n0:Nat) (α:Type) (a b:List Int) (k:AOut→Option α):evFn real tab ((twT fnA (fun _=>none)).env real tab N n0) N Tryz.f142 α [lN a,lN b] k =
 if 0≤IntKind.i64.wrap ((a.length:Int) + (b.length:Int))∧IntKind.i64.wrap ((a.length:Int) + (b.length:Int))≤IntKind.i64.wrap ((a.length:Int) + (b.length:Int)) ∧
 IntKind.i64.wrap ((a.length:Int) + (b.length:Int)) * ((8:Nat):Int)≤(room:Int) then afterL (iterL N (fun (x:Int × List Int × Unit)=>bif decide (x.1 < (a.length :
 Int)) then afterL (iterL N (fun (y:Int × Int × List Int × Unit)=>bif decide (y.2.1 < (b.length:Int)) then if 0≤IntKind.i64.wrap (x.1 + y.2.1)∧IntKind.i64.wrap (x.1 +
 y.2.1) < (y.2.2.1.length:Int) then if 0≤x.1∧x.1 < (a.length:Int) then if 0≤y.2.1∧y.2.1 < (b.length:Int) then if 0≤IntKind.i64.wrap (x.1 + y.2.1)∧IntKind.i64.wrap
 (x.1 + y.2.1) < (y.2.2.1.length:Int) then some (LRes.cont (IntKind.i64.wrap ((IntKind.i64.wrap (IntKind.i64.wrap (y.1 + y.2.2.1.getD (IntKind.i64.wrap (x.1 + y.2.1)).toNat
 (Int.ofNat 0)) + IntKind.i64.wrap (a.getD x.1.toNat (Int.ofNat 0) * b.getD y.2.1.toNat (Int.ofNat 0)))).tdiv 32768),IntKind.i64.wrap (y.2.1 + 1),y.2.2.1.set (IntKind.i64.wrap (x.1
 + y.2.1)).toNat ((IntKind.i64.wrap (IntKind.i64.wrap (y.1 + y.2.2.1.getD (IntKind.i64.wrap (x.1 + y.2.1)).toNat (Int.ofNat 0)) + IntKind.i64.wrap (a.getD x.1.toNat (Int.ofNat 0) *
 b.getD y.2.1.toNat (Int.ofNat 0)))).tmod 32768),())) else none else none else none else none else some (LRes.brk 2 (y.1,y.2.1,y.2.2.1,()))) (0,0,x.2.1,())) fun id y=>if id
 = 2 then if 0≤IntKind.i64.wrap (x.1 + (b.length:Int))∧IntKind.i64.wrap (x.1 + (b.length:Int)) < (y.2.2.1.length:Int) then some (LRes.cont (IntKind.i64.wrap (x.1 + 1),
 y.2.2.1.set (IntKind.i64.wrap (x.1 + (b.length:Int))).toNat y.1,())) else none else none else some (LRes.brk 0 (x.1,x.2.1,()))) (0,List.replicate (IntKind.i64.wrap ((a.length
 : Int) + (b.length:Int))).toNat (Int.ofNat 0),())) fun id y=>if id=0 then k (l1 (trimL y.2.1)) else none else none:=by kernel_rfl
theorem timesD_plain {α:Type} (a b:List Int) (ha:isD a=true) (hb:isD b=true) (k:AOut→Option α):evFn real tab ((twT fnA (fun _=>none)).env real tab 30 0) 30 Tryz.f142 α [lN a,lN b] k=k (l1 (dg (vl a * vl b))):=by
 rw [timesD_text]
 have la:=isD_len ha
 have lb:=isD_len hb
 have wa:=isD_low ha
 have wb:=isD_low hb
 rw [w64 ((a.length:Int) + (b.length:Int)) (by omega),if_pos ⟨by omega,by omega,by rw [roomx]; omega⟩]
 generalize hf:(fun x:Int × List Int × Unit=>(_:Option (LRes (Int × List Int × Unit) α)))=f
 have hrep:List.replicate ((a.length:Int) + (b.length:Int)).toNat (Int.ofNat 0)=outSt a b 0:=by
  rw [show ((a.length:Int) + (b.length:Int)).toNat=a.length + b.length by omega]; rfl
 rw [hrep]
 have e:iterL 30 f (0,outSt a b 0,())=some (.brk 0 ((a.length:Int),outSt a b a.length,())):=by
  refine iterL_count (f:=f) (fun i:Nat=>((i:Int),outSt a b i,())) (fun y e=>by cases e) a.length (fun i hi=>?_) ?_ 0 (Nat.zero_le _) 30 (by omega)
  ·rw [← hf]
   have O:=out_is wa wb i (by omega)
   have Ol:=O.len
   dsimp only
   rw [decide_eq_true (by omega),cond_true]
   generalize hg:(fun y:Int × Int × List Int × Unit=>(_:Option (LRes (Int × Int × List Int × Unit) (LRes (Int × List Int × Unit) α))))=g
   have e2:iterL 30 g (0,0,outSt a b i,())=some (.brk 2 ((inSt (a.getD i 0) b i (outSt a b i) b.length).1,(b.length:Int),(inSt (a.getD i 0) b i (outSt a b i) b.length).2,())):=by
    refine iterL_count (f:=g) (fun q:Nat=>((inSt (a.getD i 0) b i (outSt a b i) q).1,(q:Int),(inSt (a.getD i 0) b i (outSt a b i) q).2,())) (fun y e=>by cases e) b.length (fun q hq=>?_) ?_ 0 (Nat.zero_le _) 30 (by omega)
    ·rw [← hg]
     have I:=in_is (low_get wa i) wb O.low (i:=i) (by omega) q (by omega)
     have Il:=I.len
     have hc:=inC_in (low_get wa i) wb I
     have h1:=I.c
     have h2:=low_get I.low (i + q)
     have h3:=low_get wb q
     have h4:=low_get wa i
     have h5:0≤a.getD i 0 * b.getD q 0:=Int.mul_nonneg h4.1 h3.1
     have h6:a.getD i 0 * b.getD q 0≤32767 * 32767:=Int.mul_le_mul (by omega) (by omega) h3.1 (by omega)
     have hcc:inC (a.getD i 0) b i (inSt (a.getD i 0) b i (outSt a b i) q) q=(inSt (a.getD i 0) b i (outSt a b i) q).1 + (inSt (a.getD i 0) b i (outSt a b i) q).2.getD (i + q) 0 + a.getD i 0 * b.getD q 0:=rfl
     dsimp only
     have hz:((i:Int) + (q:Int)).toNat=i + q:=by omega
     rw [decide_eq_true (by omega),cond_true,w64 ((i:Int) + (q:Int)) (by omega),hz,if_pos ⟨by omega,by omega⟩,if_pos ⟨by omega,by omega⟩,if_pos ⟨by omega,by omega⟩,if_pos ⟨by omega,by omega⟩]
     rw [show ((i:Int)).toNat=i from rfl,show ((q:Int)).toNat=q from rfl,show Int.ofNat 0=0 from rfl]
     rw [w64 ((inSt (a.getD i 0) b i (outSt a b i) q).1 + _) (by omega),w64 (a.getD i 0 * b.getD q 0) (by omega),← hcc,w64 (inC _ _ _ _ _) (by omega),Int.tmod_eq_emod_of_nonneg hc.1,Int.tdiv_eq_ediv_of_nonneg hc.1,w64 (inC _ _ _ _ _ / 32768) (by omega),w64 ((q:Int) + 1) (by omega)]
     rfl
    ·rw [← hg]
     have h1:decide ((b.length:Int) < (b.length:Int))=false:=decide_eq_false (by omega)
     simp only [h1,cond_false]
   have I:=in_is (low_get wa i) wb O.low (i:=i) (by omega) b.length (Nat.le_refl _)
   have Il:=I.len
   rw [e2]
   have hz:((i:Int) + (b.length:Int)).toNat=i + b.length:=by omega
   simp only [afterL]
   rw [if_pos trivial,w64 ((i:Int) + (b.length:Int)) (by omega),hz,w64 ((i:Int) + 1) (by omega)]
   rw [if_pos ⟨by omega,by show _ < ((inSt (a.getD i 0) b i (outSt a b i) b.length).2.length:Int); omega⟩]
   rfl
  ·rw [← hf]
   have h1:decide ((a.length:Int) < (a.length:Int))=false:=decide_eq_false (by omega)
   simp only [h1,cond_false]
 rw [e]
 show k (l1 (trimL (outSt a b a.length)))=_
 rw [out_dg (isD_isDg ha) (isD_isDg hb)]
theorem timesDS_ok:FspOk Tryz.prog 142 timesDS:=tower_S fnA_ok sp_nil ⟨Tryz.func142,fun _ _=>by kernel_rfl⟩ (by intro α args k; unfold timesDS; split<;>simp only [cond_bind,Option.bind_some,Option.bind_none]) fun args out hs h=>by
 unfold timesDS at h
 split at h
 ·rename_i a b
  cases hb:isD a&&isD b
  ·rw [hb] at h; cases h
  ·rw [hb] at h
   rw [Bool.and_eq_true] at hb
   exact ⟨30,0,(timesD_plain a b hb.1 hb.2 some).trans h⟩
 ·cases h
def fnB:FuncId→Option Fsp:=fun g=>
 if g=179 then some minusDS else
 if g=142 then some timesDS else
 fnA g
theorem fnB_ok:FsOk fnB:=
 fs_cons minusDS_ok <|
 fs_cons timesDS_ok <|
 fnA_ok
noncomputable def twZ (fs:FuncId→Option Fsp) (sp:FuncId→Option (Cv→Cv)):Tower:=⟨fs,fun f=>f != 999979,sp,lookF fnsT⟩
theorem tower_Z {fs:FuncId→Option Fsp} {sp:FuncId→Option (Cv→Cv)} (h:FsOk fs) (hs:SpOk sp) {f:FuncId} {fn:Func} (hf:FnOk Tryz.prog f fn) {S:Fsp}
 (hn:∀ (α:Type) args (k:AOut→Option α),S α args k=(S AOut args some).bind k)
 (hS:∀ args out,(∀ c∈args,Sm c)→S AOut args some=some out→∃ N n,evFn real tab ((twZ fs sp).env real tab N n) N fn AOut args some=some out):FspOk Tryz.prog f S where
 enter:=hf.enter
 nat:=hn
 calls:=fun args out hout M w cargs hM hl hr=>by
  have hsm:∀ c∈args,Sm c:=fun c hc=>by
   obtain ⟨j,hj,rfl⟩:=List.mem_iff_getElem.1 hc
   exact (hr j _ _ (List.getElem?_eq_getElem hj) (Array.getElem?_eq_getElem (by omega))).sm
  obtain ⟨N,n,hN⟩:=hS args out hsm hout
  exact (fn_ok mixedT tabOk (tower_ok mixedT tabOk (tw:=twZ fs sp) ⟨h,hs,look_ok fnsT_ok⟩ N n) N hf.get hf.enter).calls args out hN M w cargs hM hl hr
theorem bit_searchK {α:Type} {f:Int × Int × Unit→Option (LRes (Int × Int × Unit) α)} (bid:Nat) (p:Nat→Bool) (K:Nat)
 (hf:∀ n k,n % 2 ^ (k + 1)=0→n + 2 ^ (k + 1)≤2 ^ K→p n=true→f ((n:Int),((2 ^ k:Nat):Int),())=some (.cont (((bif p (n + 2 ^ k) then n + 2 ^ k else n:Nat):Int),((2 ^ k / 2:Nat):Int),())))
 (hend:∀ n:Nat,f ((n:Int),0,())=some (.brk bid ((n:Int),0,()))) :
 ∀ (k:Nat) (n:Nat),n % 2 ^ k=0→n + 2 ^ k≤2 ^ K→p n=true→∀ N,k < N→iterL N f ((n:Int),((2 ^ k / 2:Nat):Int),())=some (.brk bid (((bs p k n:Nat):Int),0,()))
 | 0,n,h1,h2,h3,N,hN=>by
   obtain ⟨N,rfl⟩:∃ M,N=M + 1:=⟨N - 1,by omega⟩
   have e:(((2 ^ 0 / 2:Nat)):Int)=0:=rfl
   rw [e]
   simp only [iterL,hend]
   rfl
 | k + 1,n,h1,h2,h3,N,hN=>by
   obtain ⟨N,rfl⟩:∃ M,N=M + 1:=⟨N - 1,by omega⟩
   have e0:2 ^ (k + 1) / 2=2 ^ k:=by rw [Nat.pow_succ]; omega
   have e1:2 ^ (k + 1)=2 ^ k + 2 ^ k:=by rw [Nat.pow_succ]; omega
   have hd:n % 2 ^ k=0:=by
    have:(n % 2 ^ (k + 1)) % 2 ^ k=n % 2 ^ k:=Nat.mod_mod_of_dvd _ ⟨2,by rw [Nat.pow_succ]⟩
    rw [h1] at this
    simpa using this.symm
   have hf':=hf n k h1 h2 h3
   rw [e0]
   simp only [iterL,hf',bs]
   cases hp:p (n + 2 ^ k)
   ·exact bit_searchK bid p K hf hend k n hd (by omega) h3 N (by omega)
   ·exact bit_searchK bid p K hf hend k (n + 2 ^ k) (by rw [Nat.add_mod_right]; exact hd) (by omega) hp N (by omega)
theorem cmp3_ge {a b:Int}:(cmp3 a b ≥ 0)↔b≤a:=by
 unfold cmp3
 repeat' split
 all_goals omega
theorem cmp3_le0 {a b:Int}:(cmp3 a b≤0)↔a≤b:=by
 unfold cmp3
 repeat' split
 all_goals omega
def ovB (a b:List Int):Bool:=isD a&&isD b&&decide (0 < vl b)&&decide (vl b < 46768052394588893382517914646921056628989841375232)
def overDS:Fsp:=fun _ args k=>match args with
 | [.ro (.int .i64) a,.ro (.int .i64) b]=>bif ovB a b then k (.ret (.tup [lN (dg (vl a / vl b)),lN (dg (vl a % vl b))])) else none
 | _=>none
section
variable {α:Type} (N:Nat) (b R:List Int)
def ovIn (K:Int→Option α):Option α:=
 afterL
  (iterL N
   (fun (y:Int × Int × Unit)=>
    bif decide (y.2.1 > 0) then
     bif isD R&&isD b then
      bif decide (cmp3 (vl R) (vl b) ≥ 0) then
       bif decide (0≤IntKind.i64.wrap (y.1 + y.2.1))&&decide (IntKind.i64.wrap (y.1 + y.2.1)≤9223372036854775807) then
        bif isD b&&isD (dg (IntKind.i64.wrap (y.1 + y.2.1))) then
         bif isD (dg (vl b * vl (dg (IntKind.i64.wrap (y.1 + y.2.1)))))&&isD R then
          bif decide (cmp3 (vl (dg (vl b * vl (dg (IntKind.i64.wrap (y.1 + y.2.1)))))) (vl R)≤0) then
           some (LRes.cont (IntKind.i64.wrap (y.1 + y.2.1),IntKind.i64.wrap (y.2.1.tdiv 2),()))
          else some (LRes.cont (y.1,IntKind.i64.wrap (y.2.1.tdiv 2),()))
         else none
        else none
       else none
      else some (LRes.brk 2 (y.1,y.2.1,()))
     else none
    else some (LRes.brk 2 (y.1,y.2.1,())))
   (0,16384,()))
  fun id y=>if id=2 then K y.1 else none
end
theorem over_text (N n0:Nat) (α:Type) (a b:List Int) (k:AOut→Option α):evFn real tab ((twZ fnB (fun _=>none)).env real tab N n0) N Tryz.f180 α [lN a,lN b] k =
 if 0≤(a.length:Int)∧(a.length:Int)≤(a.length:Int)∧(a.length:Int) * ((8:Nat):Int)≤(room:Int) then afterL (iterL N (fun (x:List Int × Int × List Int × Unit)
 => bif decide (x.2.1 ≥ 0) then if 0≤x.2.1∧x.2.1 < (a.length:Int) then if ([a.getD x.2.1.toNat (Int.ofNat 0)].length + x.1.length) * 8≤room then ovIn N b (trimL ([a.getD
 x.2.1.toNat (Int.ofNat 0)]++x.1)) fun y=>if 0≤x.2.1∧x.2.1 < (x.2.2.1.length:Int) then bif decide (0≤y)&&decide (y≤9223372036854775807) then bif isD b&&isD (dg y)
 then bif isD (trimL ([a.getD x.2.1.toNat (Int.ofNat 0)]++x.1))&&isD (dg (vl b * vl (dg y)))&&decide (vl (dg (vl b * vl (dg y)))≤vl (trimL ([a.getD x.2.1.toNat (Int.ofNat 0)]
 ++ x.1))) then some (LRes.cont (dg (vl (trimL ([a.getD x.2.1.toNat (Int.ofNat 0)]++x.1)) - vl (dg (vl b * vl (dg y)))),IntKind.i64.wrap (x.2.1 - 1),x.2.2.1.set x.2.1.toNat y,
 ())) else none else none else none else none else none else none else some (LRes.brk 0 (x.1,x.2.1,x.2.2.1,()))) ([],IntKind.i64.wrap ((a.length:Int) - 1),List.replicate
 (a.length:Int).toNat (Int.ofNat 0),())) fun id y=>if id=0 then k (.ret (.tup [lN (trimL y.2.2.1),lN y.1])) else none else none:=by kernel_rfl
theorem ovIn_plain {α:Type} {b R:List Int} (hR:isD R=true) (hb:isD b=true) (h0:0 < vl b) (h1:vl b < 46768052394588893382517914646921056628989841375232) (h2:vl R < 32768 * vl b) (K:Int→Option α):ovIn 30 b R K=K (vl R / vl b):=by
 unfold ovIn
 generalize hf:(fun y:Int × Int × Unit=>(_:Option (LRes (Int × Int × Unit) α)))=f
 have hR0:=(isD_iff.1 hR).2.1
 by_cases hge:vl b≤vl R
 ·have e:=bit_searchK (f:=f) 2 (fun m=>decide (vl b * m≤vl R)) 15 (fun n k a1 a2 a3=>?_) (fun n=>?_) 15 0 rfl (by omega) (by simp; exact hR0) 30 (by omega)
  ·have e':iterL 30 f (0,16384,())=some (.brk 2 (((bs (fun m=>decide (vl b * m≤vl R)) 15 0:Nat):Int),0,())):=e
   rw [e']
   have hq0:0≤vl R / vl b:=Int.ediv_nonneg hR0 (Int.le_of_lt h0)
   have hq:=Int.emod_add_mul_ediv (vl R) (vl b)
   have hr0:=Int.emod_nonneg (vl R) (show vl b≠0 by omega)
   have hr1:=Int.emod_lt_of_pos (vl R) h0
   have hbs:(vl R / vl b).toNat=bs (fun m=>decide (vl b * m≤vl R)) 15 0:=bs_eq _ (fun m n hnm hm=>by
    simp only [decide_eq_true_eq] at hm ⊢
    have:=Int.mul_le_mul_of_nonneg_left (show (n:Int)≤m by omega) (Int.le_of_lt h0)
    omega) (by simp; exact hR0) (by simp; omega) (by
    simp only [decide_eq_true_eq]
    rw [show (((vl R / vl b).toNat:Nat):Int)=vl R / vl b by omega]; omega) (by
    simp only [decide_eq_false_iff_not]
    rw [show ((((vl R / vl b).toNat + 1:Nat)):Int)=vl R / vl b + 1 by omega,Int.mul_add]; omega)
   rw [← hbs]
   show K (((vl R / vl b).toNat:Nat):Int)=_
   rw [show (((vl R / vl b).toNat:Nat):Int)=vl R / vl b by omega]
  ·rw [← hf]
   have p15:(2:Nat) ^ 15=32768:=rfl
   have hk:2 ^ (k + 1)=2 ^ k + 2 ^ k:=by rw [Nat.pow_succ]; omega
   have hpos:0 < 2 ^ k:=Nat.two_pow_pos k
   have hw:IntKind.i64.wrap ((n:Int) + ((2 ^ k:Nat):Int))=((n + 2 ^ k:Nat):Int):=by rw [w64 _ (by omega)]; omega
   have hsh:IntKind.i64.wrap ((((2 ^ k:Nat):Int)).tdiv 2)=((2 ^ k / 2:Nat):Int):=by
    rw [Int.tdiv_eq_ediv_of_nonneg (by omega),w64 _ (by omega)]; omega
   have m0:0≤vl b * ((n + 2 ^ k:Nat):Int):=Int.mul_nonneg (by omega) (by omega)
   have m1:vl b * ((n + 2 ^ k:Nat):Int)≤vl b * 32768:=Int.mul_le_mul_of_nonneg_left (by omega) (by omega)
   dsimp only
   rw [decide_eq_true (show ((2 ^ k:Nat):Int) > 0 by omega),hR,hb,decide_eq_true (cmp3_ge.2 hge),hw,hsh,decide_eq_true (show 0≤((n + 2 ^ k:Nat):Int) by omega),decide_eq_true (show ((n + 2 ^ k:Nat):Int)≤9223372036854775807 by omega),isD_dg (n:=((n + 2 ^ k:Nat):Int)) ⟨by omega,by omega⟩,vl_dg _ (show 0≤((n + 2 ^ k:Nat):Int) by omega),isD_dg ⟨m0,by omega⟩,vl_dg _ m0]
   simp only [Bool.and_self,cond_true]
   by_cases hp:vl b * ((n + 2 ^ k:Nat):Int)≤vl R
   ·rw [decide_eq_true (cmp3_le0.2 hp),decide_eq_true hp]; rfl
   ·rw [decide_eq_false (fun c=>hp (cmp3_le0.1 c)),decide_eq_false hp]; rfl
  ·rw [← hf]
   rfl
 ·have hstop:f (0,16384,())=some (.brk 2 (0,16384,())):=by
   rw [← hf]
   dsimp only
   rw [hR,hb,decide_eq_false (fun c=>hge (cmp3_ge.1 c))]
   rfl
  have e:iterL 30 f (0,16384,())=some (.brk 2 (0,16384,())):=by simp only [iterL,hstop]
  rw [e,Int.ediv_eq_zero_of_lt hR0 (by omega)]
  rfl
def qSt (a:List Int) (B:Int):Nat→List Int
 | 0=>List.replicate a.length 0
 | j + 1=>(qSt a B j).set (a.length - 1 - j) ((a.getD (a.length - 1 - j) 0 + 32768 * (vl (a.drop (a.length - j)) % B)) / B)
theorem drop_step {a:List Int} {j:Nat} (hj:j < a.length):a.drop (a.length - (j + 1))=a.getD (a.length - 1 - j) 0 :: a.drop (a.length - j):=by
 have hlt:a.length - 1 - j < a.length:=by omega
 rw [show a.length - (j + 1)=a.length - 1 - j by omega,List.drop_eq_getElem_cons hlt,List.getD_eq_getElem?_getD,List.getElem?_eq_getElem hlt,show a.length - 1 - j + 1=a.length - j by omega]
 rfl
structure QIs (a:List Int) (B:Int) (j:Nat):Prop where
 len:(qSt a B j).length=a.length
 low:low15 (qSt a B j)
 vl:vl ((qSt a B j).drop (a.length - j))=vl (a.drop (a.length - j)) / B
theorem part_in {a:List Int} {B:Int} (ha:low15 a) (hB:0 < B) (j:Nat):0≤a.getD (a.length - 1 - j) 0 + 32768 * (vl (a.drop (a.length - j)) % B)∧a.getD (a.length - 1 - j) 0 + 32768 * (vl (a.drop (a.length - j)) % B) < 32768 * B:=by
 have h1:=low_get ha (a.length - 1 - j)
 have h2:=Int.emod_nonneg (vl (a.drop (a.length - j))) (show B≠0 by omega)
 have h3:=Int.emod_lt_of_pos (vl (a.drop (a.length - j))) hB
 omega
theorem q_is {a:List Int} {B:Int} (ha:low15 a) (hB:0 < B):∀ j,j≤a.length→QIs a B j
 | 0,_=>⟨by simp [qSt],fun x hx=>by simp [qSt] at hx; omega,by simp [qSt,vl]⟩
 | j + 1,hj=>by
   have h:=q_is ha hB j (by omega)
   have hp:=part_in ha hB j
   have hl:=h.len
   have hd:0≤(a.getD (a.length - 1 - j) 0 + 32768 * (vl (a.drop (a.length - j)) % B)) / B∧(a.getD (a.length - 1 - j) 0 + 32768 * (vl (a.drop (a.length - j)) % B)) / B < 32768:=
    ⟨Int.ediv_nonneg hp.1 (Int.le_of_lt hB),Int.ediv_lt_of_lt_mul hB (by omega)⟩
   refine ⟨by simp [qSt,hl],low_set h.low hd,?_⟩
   have hq:(qSt a B (j + 1)).length=a.length:=by simp [qSt,hl]
   have h4:(qSt a B (j + 1)).drop (a.length - (j + 1))=(a.getD (a.length - 1 - j) 0 + 32768 * (vl (a.drop (a.length - j)) % B)) / B :: (qSt a B j).drop (a.length - j):=by
    rw [← hq,drop_step (by omega),hq]
    congr 1
    ·simp only [qSt]
     rw [List.getD_eq_getElem?_getD,List.getElem?_set_self (by omega)]; rfl
    ·simp only [qSt]
     rw [List.drop_set_of_lt (by omega)]
   rw [h4,drop_step (by omega)]
   simp only [vl]
   rw [h.vl]
   generalize a.getD (a.length - 1 - j) 0=d
   have e:=Int.emod_add_mul_ediv (vl (a.drop (a.length - j))) B
   generalize vl (a.drop (a.length - j)) / B=q at *
   generalize vl (a.drop (a.length - j)) % B=r at *
   rw [← e,show d + 32768 * (r + B * q)=d + 32768 * r + B * (32768 * q) by rw [Int.mul_add,Int.mul_left_comm]; omega,Int.add_mul_ediv_left _ _ (by omega)]
theorem rest_step {a:List Int} {B:Int} (hB:0 < B) {j:Nat} (hj:j < a.length):vl (a.drop (a.length - (j + 1))) % B=(a.getD (a.length - 1 - j) 0 + 32768 * (vl (a.drop (a.length - j)) % B)) % B:=by
 rw [drop_step hj]
 simp only [vl]
 have e:=Int.emod_add_mul_ediv (vl (a.drop (a.length - j))) B
 generalize a.getD (a.length - 1 - j) 0=d
 generalize vl (a.drop (a.length - j)) / B=q at *
 generalize vl (a.drop (a.length - j)) % B=r at *
 rw [← e,show d + 32768 * (r + B * q)=d + 32768 * r + B * (32768 * q) by rw [Int.mul_add,Int.mul_left_comm]; omega,Int.add_mul_emod_self_left]
theorem over_plain {α:Type} (a b:List Int) (h:ovB a b=true) (k:AOut→Option α):evFn real tab ((twZ fnB (fun _=>none)).env real tab 30 0) 30 Tryz.f180 α [lN a,lN b] k=k (.ret (.tup [lN (dg (vl a / vl b)),lN (dg (vl a % vl b))])):=by
 rw [over_text]
 simp only [ovB,Bool.and_eq_true,decide_eq_true_eq] at h
 obtain ⟨⟨⟨ha,hb⟩,hB0⟩,hB1⟩:=h
 have la:=isD_len ha
 have wa:=isD_low ha
 have ha':=isD_iff.1 ha
 rw [if_pos ⟨by omega,by omega,by rw [roomx]; omega⟩]
 generalize hf:(fun x:List Int × Int × List Int × Unit=>(_:Option (LRes (List Int × Int × List Int × Unit) α)))=f
 have e:iterL 30 f ([],IntKind.i64.wrap ((a.length:Int) - 1),List.replicate (a.length:Int).toNat (Int.ofNat 0),())=some (.brk 0 (dg (vl a % vl b),-1,qSt a (vl b) a.length,())):=by
  refine (congrArg (iterL 30 f) ?_).trans (iterL_count (f:=f) (fun j:Nat=>(dg (vl (a.drop (a.length - j)) % vl b),(a.length:Int) - 1 - j,qSt a (vl b) j,())) (fun y e=>by cases e) a.length (fun j hj=>?_) ?_ 0 (Nat.zero_le _) 30 (by omega))
  ·rw [w64 _ (by omega)]
   simp [vl,dg_zero,qSt]
  ·rw [← hf]
   have hi:((a.length:Int) - 1 - j).toNat=a.length - 1 - j:=by omega
   have hp:=part_in wa hB0 j
   have Q:=q_is wa hB0 j (by omega)
   have Ql:=Q.len
   have r0:=Int.emod_nonneg (vl (a.drop (a.length - j))) (show vl b≠0 by omega)
   have r1:=Int.emod_lt_of_pos (vl (a.drop (a.length - j))) hB0
   have rl:=dg_len (n:=vl (a.drop (a.length - j)) % vl b) ⟨r0,by omega⟩
   have hd:=low_get wa (a.length - 1 - j)
   have hlow:low15 (a.getD (a.length - 1 - j) 0 :: dg (vl (a.drop (a.length - j)) % vl b)):=fun z hz=>by
    rcases List.mem_cons.1 hz with rfl | hz
    ·exact hd
    ·exact low_dg _ r0 z hz
   have hT:trimL ([a.getD (a.length - 1 - j) 0]++dg (vl (a.drop (a.length - j)) % vl b))=dg (a.getD (a.length - 1 - j) 0 + 32768 * (vl (a.drop (a.length - j)) % vl b)):=by
    rw [List.singleton_append,trim_dg hlow]
    simp only [vl,vl_dg _ r0]
   have hR:=isD_dg (n:=a.getD (a.length - 1 - j) 0 + 32768 * (vl (a.drop (a.length - j)) % vl b)) ⟨hp.1,by omega⟩
   have hv:=vl_dg _ hp.1
   dsimp only
   rw [decide_eq_true (by omega),cond_true,hi,show Int.ofNat 0=0 from rfl,if_pos ⟨by omega,by omega⟩,if_pos (by rw [roomx]; simp; omega),hT,ovIn_plain hR hb hB0 hB1 (by rw [hv]; exact hp.2),hv,if_pos ⟨by omega,by omega⟩]
   have hst:=rest_step (a:=a) hB0 hj
   have hq:qSt a (vl b) (j + 1)=(qSt a (vl b) j).set (a.length - 1 - j) ((a.getD (a.length - 1 - j) 0 + 32768 * (vl (a.drop (a.length - j)) % vl b)) / vl b):=rfl
   rw [hst,hq]
   generalize a.getD (a.length - 1 - j) 0 + 32768 * (vl (a.drop (a.length - j)) % vl b)=R at *
   have q0:0≤R / vl b:=Int.ediv_nonneg hp.1 (Int.le_of_lt hB0)
   have q1:R / vl b < 32768:=Int.ediv_lt_of_lt_mul hB0 (by omega)
   have eq:=Int.emod_add_mul_ediv R (vl b)
   have s0:=Int.emod_nonneg R (show vl b≠0 by omega)
   have m0:0≤vl b * (R / vl b):=Int.mul_nonneg (by omega) q0
   rw [decide_eq_true q0,decide_eq_true (show R / vl b≤9223372036854775807 by omega),hb,isD_dg (n:=R / vl b) ⟨q0,by omega⟩,vl_dg _ q0,hR,isD_dg (n:=vl b * (R / vl b)) ⟨m0,by omega⟩,vl_dg _ m0,decide_eq_true (show vl b * (R / vl b)≤R by omega),w64 _ (by omega)]
   simp only [Bool.and_self,cond_true]
   rw [show R - vl b * (R / vl b)=R % vl b by omega,show (a.length:Int) - 1 - j - 1=(a.length:Int) - 1 - ((j + 1:Nat):Int) by omega]
  ·rw [← hf]
   simp only [decide_eq_false (show ¬ (a.length:Int) - 1 - a.length ≥ 0 by omega),cond_false,Nat.sub_self,List.drop_zero]
   rw [show (a.length:Int) - 1 - a.length=-1 by omega]
 have Q:=q_is wa hB0 a.length (Nat.le_refl _)
 have Qv:=Q.vl
 rw [Nat.sub_self,List.drop_zero,List.drop_zero] at Qv
 rw [e]
 show k (.ret (.tup [lN (trimL (qSt a (vl b) a.length)),lN (dg (vl a % vl b))]))=_
 rw [trim_dg Q.low,Qv]
theorem overDS_ok:FspOk Tryz.prog 180 overDS:=tower_Z fnB_ok sp_nil ⟨Tryz.func180,fun _ _=>by kernel_rfl⟩ (by intro α args k; unfold overDS; split<;>simp only [cond_bind,Option.bind_some,Option.bind_none]) fun args out hs h=>by
 unfold overDS at h
 split at h
 ·rename_i a b
  cases hb:ovB a b
  ·rw [hb] at h; cases h
  ·rw [hb] at h
   exact ⟨30,0,(over_plain a b hb some).trans h⟩
 ·cases h
def fnC:FuncId→Option Fsp:=fun g=>
 if g=180 then some overDS else
 fnB g
theorem fnC_ok:FsOk fnC:=
 fs_cons overDS_ok <|
 fnB_ok
def i7 (x:Int):Bool:=decide (-9223372036854775807≤x)&&decide (x≤9223372036854775807)
theorem i7_iff {x:Int}:i7 x=true↔-9223372036854775807≤x∧x≤9223372036854775807:=by simp [i7]
theorem i7_ok {x:Int} (h:okB x=true):i7 x=true:=by rw [ok_iff] at h; rw [i7_iff]; omega
theorem i7_ab {x:Int} (h:i7 x=true):0≤ab x∧ab x≤9223372036854775807:=by rw [i7_iff] at h; unfold ab; split<;>omega
def rsizeS:Fsp:=fun _ args k=>match args with
 | [.int .i64 x]=>bif i7 x then k (i1 (ab x)) else none
 | _=>none
theorem rsize_text (N n0:Nat) (α:Type) (x:Int) (k:AOut→Option α):evFn real tab ((twT fnC (fun _=>none)).env real tab N n0) N Tryz.f139 α [iN x] k=bif decide (x < 0) then k (i1 (IntKind.i64.wrap (0 - x))) else k (i1 x):=by kernel_rfl
theorem rsizeS_ok:FspOk Tryz.prog 139 rsizeS:=tower_S fnC_ok sp_nil ⟨Tryz.func139,fun _ _=>by kernel_rfl⟩ (by intro α args k; unfold rsizeS; split<;>simp only [cond_bind,Option.bind_some,Option.bind_none]) fun args out hs h=>by
 unfold rsizeS at h
 split at h
 ·rename_i x
  cases hb:i7 x
  ·rw [hb] at h; cases h
  ·rw [hb,cond_true] at h
   rw [i7_iff] at hb
   refine ⟨1,0,(rsize_text 1 0 AOut x some).trans (Eq.trans ?_ h)⟩
   unfold ab
   by_cases hx:x < 0
   ·rw [decide_eq_true hx,cond_true,if_pos hx,w64 _ (by omega),Int.zero_sub]
   ·rw [decide_eq_false hx,cond_false,if_neg hx]
 ·cases h
def rdQ (a b:List Int):Int:=bif smB (vl a / vl b) then vl a / vl b else 0
def rdN (a b:List Int) (m:Bool) (how:Int):Int:=sg m (rdQ a b + (bif up1 how m (vl a % vl b) (vl b) then 1 else 0))
def roundS:Fsp:=fun _ args k=>match args with
 | [.ro (.int .i64) a,.ro (.int .i64) b,.bool m,.int .i64 how]=>bif ovB a b&&wayB how then k (.ret (.tup [iN (rdN a b m how),bN (smB (vl a / vl b))])) else none
 | _=>none
section
variable {α:Type}
def rdOut (m:Bool) (n:Int) (s:Bool) (k:AOut→Option α):Option α:=
 bif m then k (.ret (.tup [iN (IntKind.i64.wrap (0 - n)),bN s])) else k (.ret (.tup [iN n,bN s]))
def rdMore (a b:List Int) (m:Bool) (k:AOut→Option α):Option α:=
 bif decide (((dg (vl a % vl b)).length:Int) > 0) then rdOut m (IntKind.i64.wrap ((bif smB (vl (dg (vl a / vl b))) then vl (dg (vl a / vl b)) else 0) + 1)) (smB (vl (dg (vl a / vl b)))) k
 else rdOut m (bif smB (vl (dg (vl a / vl b))) then vl (dg (vl a / vl b)) else 0) (smB (vl (dg (vl a / vl b)))) k
def rdLess (a b:List Int) (m:Bool) (k:AOut→Option α):Option α:=
 rdOut m (bif smB (vl (dg (vl a / vl b))) then vl (dg (vl a / vl b)) else 0) (smB (vl (dg (vl a / vl b)))) k
def rdText (M:Option α) (a b:List Int):Option α:=
 bif ovB a b then bif isD (dg (vl a / vl b)) then M else none else none
end
theorem round0_text (N n0:Nat) (α:Type) (a b:List Int) (m:Bool) (k:AOut→Option α):evFn real tab ((twT fnC (fun _=>none)).env real tab N n0) N Tryz.f148 α [lN a,lN b,.bool m,iN 0] k=rdText (rdLess a b m k) a b:=by kernel_rfl
theorem round1_text (N n0:Nat) (α:Type) (a b:List Int) (m:Bool) (k:AOut→Option α):evFn real tab ((twT fnC (fun _=>none)).env real tab N n0) N Tryz.f148 α [lN a,lN b,.bool m,iN 1] k=rdText (bif m then rdMore a b m k else rdLess a b m k) a b:=by kernel_rfl
theorem round2_text (N n0:Nat) (α:Type) (a b:List Int) (m:Bool) (k:AOut→Option α):evFn real tab ((twT fnC (fun _=>none)).env real tab N n0) N Tryz.f148 α [lN a,lN b,.bool m,iN 2] k=rdText (bif !m then rdMore a b m k else rdLess a b m k) a b:=by kernel_rfl
theorem round3_text (N n0:Nat) (α:Type) (a b:List Int) (m:Bool) (k:AOut→Option α):evFn real tab ((twT fnC (fun _=>none)).env real tab N n0) N Tryz.f148 α [lN a,lN b,.bool m,iN 3] k =
 rdText (bif isD (dg (vl a % vl b))&&isD (dg (vl a % vl b)) then bif isD (dg (vl (dg (vl a % vl b)) + vl (dg (vl a % vl b))))&&isD b then bif decide (cmp3 (vl (dg (vl (dg (vl a %
 vl b)) + vl (dg (vl a % vl b))))) (vl b) ≥ 0) then rdMore a b m k else rdLess a b m k else none else none) a b:=by kernel_rfl
structure OvIs (a b:List Int):Prop where
 q:0≤vl a / vl b∧vl a / vl b < 1532495540865888858358347027150309183618739122183602176
 r:0≤vl a % vl b∧vl a % vl b < vl b
 bb:vl b < 46768052394588893382517914646921056628989841375232
 db:isD b=true
theorem ov_is {a b:List Int} (h:ovB a b=true):OvIs a b:=by
 simp only [ovB,Bool.and_eq_true,decide_eq_true_eq] at h
 obtain ⟨⟨⟨ha,hb⟩,h0⟩,h1⟩:=h
 have ha:=isD_iff.1 ha
 exact ⟨⟨Int.ediv_nonneg ha.2.1 (Int.le_of_lt h0),by have:=Int.ediv_le_self (vl b) ha.2.1; omega⟩,⟨Int.emod_nonneg _ (by omega),Int.emod_lt_of_pos _ h0⟩,h1,hb⟩
theorem sm_le {n:Int}:(bif smB n then n else 0)≤1152921504606846975:=by
 unfold smB
 by_cases h:n < 1152921504606846976
 ·rw [decide_eq_true h]; simp only [cond_true]; omega
 ·rw [decide_eq_false h]; simp
theorem sm_nn {n:Int} (h:0≤n):0≤(bif smB n then n else 0):=by cases smB n<;>simp<;>omega
theorem rdOut_eq {α:Type} {n:Int} (m s:Bool) (h:0≤n∧n≤1152921504606846976) (k:AOut→Option α):rdOut m n s k=k (.ret (.tup [iN (sg m n),bN s])):=by
 unfold rdOut sg
 cases m
 ·rfl
 ·rw [cond_true,cond_true,w64 _ (by omega),Int.zero_sub]
theorem rd_fin {α:Type} {a b:List Int} (h:ovB a b=true) (m:Bool) (how:Int) (k:AOut→Option α) (c:Bool) (hc:0 < vl a % vl b→up1 how m (vl a % vl b) (vl b)=c) :
 rdText (bif c then rdMore a b m k else rdLess a b m k) a b=k (.ret (.tup [iN (rdN a b m how),bN (smB (vl a / vl b))])):=by
 have O:=ov_is h
 have v:=vl_dg _ O.q.1
 have s1:=sm_le (n:=vl a / vl b)
 have s0:=sm_nn O.q.1
 unfold rdText rdMore rdLess rdN rdQ
 rw [h,isD_dg O.q,v,cond_true,cond_true]
 by_cases hr:0 < vl a % vl b
 ·have hlen:0 < (dg (vl a % vl b)).length:=List.length_pos_iff.2 fun e=>by have:=(dg_nil O.r.1).1 e; omega
  rw [hc hr,decide_eq_true (show ((dg (vl a % vl b)).length:Int) > 0 by omega),cond_true]
  cases c
  ·rw [cond_false,cond_false,rdOut_eq _ _ (by omega),Int.add_zero]
  ·rw [cond_true,cond_true,w64 _ (by omega),rdOut_eq _ _ (by omega)]
 ·have hz:vl a % vl b=0:=by have:=O.r.1; omega
  have hu:up1 how m (vl a % vl b) (vl b)=false:=by unfold up1; rw [decide_eq_false hr]; rfl
  rw [hu,hz,dg_zero,cond_false,Int.add_zero]
  have hd:decide (((List.length ([]:List Int):Nat):Int) > 0)=false:=rfl
  rw [hd,cond_false,rdOut_eq _ _ (by omega)]
  cases c<;>rfl
theorem round_plain {α:Type} (N n0:Nat) {a b:List Int} (h:ovB a b=true) (m:Bool) {how:Int} (hw:wayB how=true) (k:AOut→Option α):evFn real tab ((twT fnC (fun _=>none)).env real tab N n0) N Tryz.f148 α [lN a,lN b,.bool m,iN how] k=k (.ret (.tup [iN (rdN a b m how),bN (smB (vl a / vl b))])):=by
 have O:=ov_is h
 rcases way_cases hw with rfl | rfl | rfl | rfl
 ·exact (round0_text N n0 α a b m k).trans (rd_fin h m 0 k false fun hr=>by unfold up1; rw [decide_eq_true hr]; rfl)
 ·exact (round1_text N n0 α a b m k).trans (rd_fin h m 1 k m fun hr=>by unfold up1; rw [decide_eq_true hr]; rfl)
 ·exact (round2_text N n0 α a b m k).trans (rd_fin h m 2 k (!m) fun hr=>by unfold up1; rw [decide_eq_true hr]; rfl)
 ·refine (round3_text N n0 α a b m k).trans (Eq.trans ?_ (rd_fin h m 3 k (decide (vl b≤vl a % vl b + vl a % vl b)) fun hr=>by unfold up1; rw [decide_eq_true hr]; rfl))
  have r0:=O.r
  have b0:=O.bb
  congr 1
  rw [isD_dg ⟨r0.1,by omega⟩,vl_dg _ r0.1,isD_dg ⟨by omega,by omega⟩,vl_dg _ (by omega),O.db]
  simp only [Bool.and_self,cond_true]
  rw [decide_eq_decide.2 cmp3_ge]
theorem roundS_ok:FspOk Tryz.prog 148 roundS:=tower_S fnC_ok sp_nil ⟨Tryz.func148,fun _ _=>by kernel_rfl⟩ (by intro α args k; unfold roundS; split<;>simp only [cond_bind,Option.bind_some,Option.bind_none]) fun args out hs h=>by
 unfold roundS at h
 split at h
 ·rename_i a b m how
  cases hb:ovB a b&&wayB how
  ·rw [hb] at h; cases h
  ·rw [hb] at h
   rw [Bool.and_eq_true] at hb
   exact ⟨1,0,(round_plain 1 0 hb.1 m hb.2 some).trans h⟩
 ·cases h
def fnD:FuncId→Option Fsp:=fun g=>
 if g=139 then some rsizeS else
 if g=148 then some roundS else
 fnC g
theorem fnD_ok:FsOk fnD:=
 fs_cons rsizeS_ok <|
 fs_cons roundS_ok <|
 fnC_ok
def rvalidS:Fsp:=fun _ args k=>match args with
 | [.int .i64 x]=>k (b1 (okB x))
 | _=>none
theorem rvalid_text (N n0:Nat) (α:Type) (x:Int) (k:AOut→Option α):evFn real tab ((twT fnD (fun _=>none)).env real tab N n0) N Tryz.f137 α [iN x] k=bif decide (x ≥ -70368744177664) then k (b1 (decide (x≤70368744177664))) else k (b1 false):=by kernel_rfl
theorem rvalidS_ok:FspOk Tryz.prog 137 rvalidS:=tower_S fnD_ok sp_nil ⟨Tryz.func137,fun _ _=>by kernel_rfl⟩ (by intro α args k; unfold rvalidS; split<;>rfl) fun args out hs h=>by
 unfold rvalidS at h
 split at h
 ·rename_i x
  refine ⟨1,0,(rvalid_text 1 0 AOut x some).trans (Eq.trans ?_ h)⟩
  have:okB x=(decide (x ≥ -70368744177664)&&decide (x≤70368744177664)):=rfl
  rw [this]
  cases decide (x ≥ -70368744177664)<;>rfl
 ·cases h
def rwayS:Fsp:=fun _ args k=>match args with
 | [.int .i64 x]=>k (b1 (wayB x))
 | _=>none
theorem rway_text (N n0:Nat) (α:Type) (x:Int) (k:AOut→Option α):evFn real tab ((twT fnD (fun _=>none)).env real tab N (n0 + 1)) N Tryz.f144 α [iN x] k=bif decide (0≤x) then k (b1 (decide (x≤3))) else k (b1 false):=by kernel_rfl
theorem rwayS_ok:FspOk Tryz.prog 144 rwayS:=tower_S fnD_ok sp_nil ⟨Tryz.func144,fun _ _=>by kernel_rfl⟩ (by intro α args k; unfold rwayS; split<;>rfl) fun args out hs h=>by
 unfold rwayS at h
 split at h
 ·rename_i x
  refine ⟨1,1,(rway_text 1 0 AOut x some).trans (Eq.trans ?_ h)⟩
  unfold wayB
  cases decide (0≤x)<;>rfl
 ·cases h
def squareDS:Fsp:=fun _ args k=>match args with
 | [.agg [.int .i64 x,.int .i64 y]]=>bif i7 x&&i7 y then k (l1 (dg (sq2 x y))) else none
 | _=>none
theorem i7_D {x:Int} (h:i7 x=true):isD (dg (ab x))=true∧vl (dg (ab x))=ab x∧(0≤ab x * ab x∧ab x * ab x≤85070591730234615847396907784232501249):=by
 have a:=i7_ab h
 exact ⟨isD_dg ⟨a.1,by omega⟩,vl_dg _ a.1,sq_in' a.1 a.2⟩
where
 sq_in' {x B:Int} (h0:0≤x) (h1:x≤B):0≤x * x∧x * x≤B * B:=⟨Int.mul_nonneg h0 h0,Int.mul_le_mul h1 h1 h0 (by omega)⟩
theorem squareD_text (N n0:Nat) (α:Type) (x y:Int) (k:AOut→Option α):evFn real tab ((twT fnD (fun _=>none)).env real tab N n0) N Tryz.f141 α [sN x y] k =
 bif i7 x then bif decide (0≤ab x)&&decide (ab x≤9223372036854775807) then bif i7 y then bif decide (0≤ab y)&&decide (ab y≤9223372036854775807) then bif isD (dg (ab x))
 && isD (dg (ab x)) then bif isD (dg (ab y))&&isD (dg (ab y)) then bif isD (dg (vl (dg (ab x)) * vl (dg (ab x))))&&isD (dg (vl (dg (ab y)) * vl (dg (ab y)))) then k (l1 (dg (vl
 (dg (vl (dg (ab x)) * vl (dg (ab x)))) + vl (dg (vl (dg (ab y)) * vl (dg (ab y))))))) else none else none else none else none else none else none else none:=by kernel_rfl
theorem squareDS_ok:FspOk Tryz.prog 141 squareDS:=tower_S fnD_ok sp_nil ⟨Tryz.func141,fun _ _=>by kernel_rfl⟩ (by intro α args k; unfold squareDS; split<;>simp only [cond_bind,Option.bind_some,Option.bind_none]) fun args out hs h=>by
 unfold squareDS at h
 split at h
 ·rename_i x y
  cases hb:i7 x&&i7 y
  ·rw [hb] at h; cases h
  ·rw [hb,cond_true] at h
   rw [Bool.and_eq_true] at hb
   obtain ⟨hx,hy⟩:=hb
   refine ⟨1,0,(squareD_text 1 0 AOut x y some).trans (Eq.trans ?_ h)⟩
   have a:=i7_ab hx
   have b:=i7_ab hy
   obtain ⟨x1,x2,x3⟩:=i7_D hx
   obtain ⟨y1,y2,y3⟩:=i7_D hy
   rw [hx,hy,decide_eq_true a.1,decide_eq_true a.2,decide_eq_true b.1,decide_eq_true b.2,x1,y1,x2,y2,isD_dg ⟨x3.1,by omega⟩,isD_dg ⟨y3.1,by omega⟩,vl_dg _ x3.1,vl_dg _ y3.1]
   rfl
 ·cases h
/-! Shares. -/
def shD (x:Int) (s:List Int):Bool:=i7 x&&isD s&&(decide (0 < vl s)&&decide (vl s < 1393796574908163946345982392040522594123776))&&decide (ab x * ab x≤vl s)
noncomputable def shareDS:Fsp:=fun _ args k=>match args with
 | [.int .i64 x,.ro (.int .i64) s]=>bif shD x s then k (i1 (sg (ngB x) (shr (ab x) (vl s)))) else none
 | _=>none
section
variable {α:Type} (N:Nat) (X:Int) (a:List Int)
def shLoop (K:Int→Option α):Option α:=
 afterL
  (iterL N
   (fun (y:Int × Int × Unit)=>
    bif decide (y.2.1 > 0) then
     bif decide (0≤IntKind.i64.wrap (y.1 + y.2.1))&&decide (IntKind.i64.wrap (y.1 + y.2.1)≤9223372036854775807) then
      bif isD (dg (IntKind.i64.wrap (y.1 + y.2.1)))&&isD (dg (IntKind.i64.wrap (y.1 + y.2.1))) then
       bif isD (dg (vl (dg (IntKind.i64.wrap (y.1 + y.2.1))) * vl (dg (IntKind.i64.wrap (y.1 + y.2.1)))))&&isD a then
        bif isD (dg (vl (dg (vl (dg (IntKind.i64.wrap (y.1 + y.2.1))) * vl (dg (IntKind.i64.wrap (y.1 + y.2.1))))) * vl a))&&isD (dg (vl (dg (vl (dg X) * vl (dg X))) * vl (dg (IntKind.i64.wrap (1 * 2 ^ min (Int.toNat 32) 64))))) then
         bif decide (cmp3 (vl (dg (vl (dg (vl (dg (IntKind.i64.wrap (y.1 + y.2.1))) * vl (dg (IntKind.i64.wrap (y.1 + y.2.1))))) * vl a))) (vl (dg (vl (dg (vl (dg X) * vl (dg X))) * vl (dg (IntKind.i64.wrap (1 * 2 ^ min (Int.toNat 32) 64))))))≤0) then
          some (LRes.cont (IntKind.i64.wrap (y.1 + y.2.1),IntKind.i64.wrap (y.2.1.tdiv 2),()))
         else some (LRes.cont (y.1,IntKind.i64.wrap (y.2.1.tdiv 2),()))
        else none
       else none
      else none
     else none
    else some (LRes.brk 0 (y.1,y.2.1,())))
   (0,65536,()))
  fun id y=>if id=0 then K y.1 else none
end
theorem shareD_text (N n0:Nat) (α:Type) (x:Int) (a:List Int) (k:AOut→Option α):evFn real tab ((twT fnD (fun _=>none)).env real tab N (n0 + 1)) N Tryz.f143 α [iN x,lN a] k =
 bif i7 x then bif decide (0≤ab x)&&decide (ab x≤9223372036854775807) then bif isD (dg (ab x))&&isD (dg (ab x)) then bif isD (dg (vl (dg (ab x)) * vl (dg (ab x))))&&isD (dg
 (IntKind.i64.wrap (1 * 2 ^ min (Int.toNat 32) 64))) then shLoop N (ab x) a fun y=>bif decide (x < 0) then k (i1 (IntKind.i64.wrap (0 - y))) else k (i1 y) else none else none else
 none else none:=by kernel_rfl
def shPn (X s:Int) (m:Nat):Bool:=decide ((m:Int) * m * s≤4294967296 * (X * X))
theorem shr_bs (X s:Int):shr X s=((bs (shPn X s) 17 0:Nat):Int):=by rw [shr_C]; rfl
theorem shLoop_plain {α:Type} {X:Int} {a:List Int} (hX:0≤X∧X≤9223372036854775807) (ha:isD a=true) (h0:0 < vl a) (h1:vl a < 1393796574908163946345982392040522594123776) (h2:X * X≤vl a) (K:Int→Option α) :
 shLoop 30 X a K=K (shr X (vl a))∧0≤shr X (vl a)∧shr X (vl a)≤131072:=by
 have sX:0≤X * X∧X * X≤85070591730234615847396907784232501249:=i7_D.sq_in' hX.1 hX.2
 have two:IntKind.i64.wrap (1 * 2 ^ min (Int.toNat 32) 64)=4294967296:=by decide
 have hbs:=bs_spec (shPn X (vl a)) (fun m n hnm hm=>by
  simp only [shPn,decide_eq_true_eq] at hm ⊢
  have:(n:Int) * n≤m * m:=Int.mul_le_mul (by omega) (by omega) (by omega) (by omega)
  have:=Int.mul_le_mul_of_nonneg_right this (Int.le_of_lt h0)
  omega) 17 0 (by
  simp only [shPn,decide_eq_true_eq]
  have:((0:Nat):Int) * ((0:Nat):Int) * vl a=0:=by simp
  omega) (by
  simp only [shPn,decide_eq_false_iff_not,Int.not_le]
  have e:(((0 + 2 ^ 17:Nat)):Int)=131072:=by decide
  rw [e]
  omega)
 refine ⟨?_,by rw [shr_bs]; omega,by rw [shr_bs]; have:(2:Nat) ^ 17=131072:=rfl; omega⟩
 unfold shLoop
 generalize hf:(fun y:Int × Int × Unit=>(_:Option (LRes (Int × Int × Unit) α)))=f
 have e:=bit_searchK (f:=f) 0 (shPn X (vl a)) 17 (fun n k a1 a2 a3=>?_) (fun n=>?_) 17 0 rfl (by omega) (by
  simp only [shPn,decide_eq_true_eq]
  have:((0:Nat):Int) * ((0:Nat):Int) * vl a=0:=by simp
  omega) 30 (by omega)
 ·have e':iterL 30 f (0,65536,())=some (.brk 0 (((bs (shPn X (vl a)) 17 0:Nat):Int),0,())):=e
  rw [e',shr_bs]
  rfl
 ·rw [← hf]
  have p17:(2:Nat) ^ 17=131072:=rfl
  have hk:2 ^ (k + 1)=2 ^ k + 2 ^ k:=by rw [Nat.pow_succ]; omega
  have hpos:0 < 2 ^ k:=Nat.two_pow_pos k
  have hw:IntKind.i64.wrap ((n:Int) + ((2 ^ k:Nat):Int))=((n + 2 ^ k:Nat):Int):=by rw [w64 _ (by omega)]; omega
  have hsh:IntKind.i64.wrap ((((2 ^ k:Nat):Int)).tdiv 2)=((2 ^ k / 2:Nat):Int):=by
   rw [Int.tdiv_eq_ediv_of_nonneg (by omega),w64 _ (by omega)]; omega
  have hm:(0:Int)≤((n + 2 ^ k:Nat):Int)∧((n + 2 ^ k:Nat):Int)≤131072:=by omega
  have hp:shPn X (vl a) (n + 2 ^ k)=decide (((n + 2 ^ k:Nat):Int) * ((n + 2 ^ k:Nat):Int) * vl a≤4294967296 * (X * X)):=rfl
  have m2:=i7_D.sq_in' hm.1 hm.2
  have hpos2:((2 ^ k:Nat):Int) > 0:=by omega
  dsimp only
  rw [decide_eq_true hpos2,hw,hsh,hp]
  generalize hme:((n + 2 ^ k:Nat):Int)=m at *
  have m3:0≤m * m * vl a:=Int.mul_nonneg m2.1 (by omega)
  have m4:m * m * vl a≤17179869184 * 1393796574908163946345982392040522594123776:=Int.mul_le_mul m2.2 (by omega) (by omega) (by omega)
  rw [decide_eq_true hm.1,decide_eq_true (show m≤9223372036854775807 by omega),isD_dg (n:=m) ⟨hm.1,by omega⟩,vl_dg _ hm.1,isD_dg (n:=m * m) ⟨m2.1,by omega⟩,vl_dg _ m2.1,ha,isD_dg (n:=m * m * vl a) ⟨m3,by omega⟩,vl_dg _ m3,two,vl_dg X hX.1,vl_dg _ sX.1,vl_dg 4294967296 (by omega),isD_dg (n:=X * X * 4294967296) ⟨by omega,by omega⟩,vl_dg _ (show 0≤X * X * 4294967296 by omega)]
  simp only [Bool.and_self,cond_true]
  by_cases hq:m * m * vl a≤4294967296 * (X * X)
  ·rw [decide_eq_true (cmp3_le0.2 (show m * m * vl a≤X * X * 4294967296 by omega)),decide_eq_true hq]
   simp only [cond_true]
   rw [← hme]
  ·rw [decide_eq_false (fun c=>hq (by have:=cmp3_le0.1 c; omega)),decide_eq_false hq]
   rfl
 ·rw [← hf]
  rfl
theorem shareDS_ok:FspOk Tryz.prog 143 shareDS:=tower_S fnD_ok sp_nil ⟨Tryz.func143,fun _ _=>by kernel_rfl⟩ (by intro α args k; unfold shareDS; split<;>simp only [cond_bind,Option.bind_some,Option.bind_none]) fun args out hs h=>by
 unfold shareDS at h
 split at h
 ·rename_i x s
  cases hb:shD x s
  ·rw [hb] at h; cases h
  ·rw [hb,cond_true] at h
   simp only [shD,Bool.and_eq_true,decide_eq_true_eq] at hb
   obtain ⟨⟨⟨hx,hs'⟩,h0,h1⟩,h2⟩:=hb
   refine ⟨30,1,(shareD_text 30 0 AOut x s some).trans (Eq.trans ?_ h)⟩
   have a:=i7_ab hx
   obtain ⟨x1,x2,x3⟩:=i7_D hx
   have two:IntKind.i64.wrap (1 * 2 ^ min (Int.toNat 32) 64)=4294967296:=by decide
   have L:=fun K=>shLoop_plain (α:=AOut) a hs' h0 h1 h2 K
   rw [hx,decide_eq_true a.1,decide_eq_true a.2,x1,x2,isD_dg ⟨x3.1,by omega⟩,two,isD_dg (n:=4294967296) ⟨by omega,by omega⟩]
   simp only [Bool.and_self,cond_true]
   rw [(L _).1]
   have hr:=(shLoop_plain (α:=AOut) a hs' h0 h1 h2 fun _=>none).2
   unfold sg ngB
   cases decide (x < 0)
   ·rfl
   ·rw [cond_true,cond_true,w64 _ (by omega),Int.zero_sub]
 ·cases h
/-! Numbers with a sign. -/
def rprodS:Fsp:=fun _ args k=>match args with
 | [.int .i64 a,.int .i64 b]=>bif i7 a&&i7 b then k (.ret (.agg [bN (xorB (ngB a) (ngB b)),lN (dg (ab a * ab b))])) else none
 | _=>none
theorem rprod_text (N n0:Nat) (α:Type) (a b:Int) (k:AOut→Option α):evFn real tab ((twT fnD (fun _=>none)).env real tab N (n0 + 1)) N Tryz.f146 α [iN a,iN b] k =
 bif i7 a then bif decide (0≤ab a)&&decide (ab a≤9223372036854775807) then bif i7 b then bif decide (0≤ab b)&&decide (ab b≤9223372036854775807) then bif isD (dg (ab a))
 && isD (dg (ab b)) then k (.ret (.agg [bN (!(decide (a < 0)==decide (b < 0))),lN (dg (vl (dg (ab a)) * vl (dg (ab b))))])) else none else none else none else none else none:=by
 kernel_rfl
theorem rprodS_ok:FspOk Tryz.prog 146 rprodS:=tower_S fnD_ok sp_nil ⟨Tryz.func146,fun _ _=>by kernel_rfl⟩ (by intro α args k; unfold rprodS; split<;>simp only [cond_bind,Option.bind_some,Option.bind_none]) fun args out hs h=>by
 unfold rprodS at h
 split at h
 ·rename_i x y
  cases hb:i7 x&&i7 y
  ·rw [hb] at h; cases h
  ·rw [hb,cond_true] at h
   rw [Bool.and_eq_true] at hb
   obtain ⟨hx,hy⟩:=hb
   refine ⟨1,1,(rprod_text 1 0 AOut x y some).trans (Eq.trans ?_ h)⟩
   have a:=i7_ab hx
   have b:=i7_ab hy
   obtain ⟨x1,x2,x3⟩:=i7_D hx
   obtain ⟨y1,y2,y3⟩:=i7_D hy
   rw [hx,hy,decide_eq_true a.1,decide_eq_true a.2,decide_eq_true b.1,decide_eq_true b.2,x1,y1,x2,y2]
   rfl
 ·cases h
def sumB (m n:Bool) (p q:Int):Bool:=bif m==n then m else bif decide (q≤p) then m else n
def sumV (m n:Bool) (p q:Int):Int:=bif m==n then p + q else bif decide (q≤p) then p - q else q - p
def rsumS:Fsp:=fun _ args k=>match args with
 | [.agg [.bool m,.ro (.int .i64) p],.agg [.bool n,.ro (.int .i64) q]]=>bif isD p&&isD q then k (.ret (.agg [bN (sumB m n (vl p) (vl q)),lN (dg (sumV m n (vl p) (vl q)))])) else none
 | _=>none
theorem rsum_text (N n0:Nat) (α:Type) (m n:Bool) (p q:List Int) (k:AOut→Option α):evFn real tab ((twT fnD (fun _=>none)).env real tab N n0) N Tryz.f145 α [.agg [bN m,lN p],.agg [bN n,lN q]] k =
 bif m==n then bif isD p&&isD q then k (.ret (.agg [bN m,lN (dg (vl p + vl q))])) else none else bif isD p&&isD q then bif decide (cmp3 (vl p) (vl q) ≥ 0) then bif isD p &&
 isD q&&decide (vl q≤vl p) then k (.ret (.agg [bN m,lN (dg (vl p - vl q))])) else none else bif isD q&&isD p&&decide (vl p≤vl q) then k (.ret (.agg [bN n,lN (dg (vl q -
 vl p))])) else none else none:=by kernel_rfl
theorem rsumS_ok:FspOk Tryz.prog 145 rsumS:=tower_S fnD_ok sp_nil ⟨Tryz.func145,fun _ _=>by kernel_rfl⟩ (by intro α args k; unfold rsumS; split<;>simp only [cond_bind,Option.bind_some,Option.bind_none]) fun args out hs h=>by
 unfold rsumS at h
 split at h
 ·rename_i m p n q
  cases hb:isD p&&isD q
  ·rw [hb] at h; cases h
  ·rw [hb,cond_true] at h
   rw [Bool.and_eq_true] at hb
   obtain ⟨hp,hq⟩:=hb
   refine ⟨1,0,(rsum_text 1 0 AOut m n p q some).trans (Eq.trans ?_ h)⟩
   unfold sumB sumV
   rw [hp,hq]
   simp only [Bool.and_self,cond_true,Bool.true_and]
   cases m==n
   ·by_cases c:vl q≤vl p
    ·rw [decide_eq_true (cmp3_ge.2 c),decide_eq_true c]; rfl
    ·rw [decide_eq_false (fun d=>c (cmp3_ge.1 d)),decide_eq_false c,decide_eq_true (show vl p≤vl q by omega)]; rfl
   ·rfl
 ·cases h
def fnE:FuncId→Option Fsp:=fun g=>
 if g=146 then some rprodS else
 fnD g
theorem fnE_ok:FsOk fnE:=
 fs_cons rprodS_ok <|
 fnD_ok
def fnF:FuncId→Option Fsp:=fun g=>
 if g=145 then some rsumS else
 fnE g
theorem fnF_ok:FsOk fnF:=
 fs_cons rsumS_ok <|
 fnE_ok
def fnG:FuncId→Option Fsp:=fun g=>
 if g=137 then some rvalidS else
 fnF g
theorem fnG_ok:FsOk fnG:=
 fs_cons rvalidS_ok <|
 fnF_ok
def fnH:FuncId→Option Fsp:=fun g=>
 if g=144 then some rwayS else
 fnG g
theorem fnH_ok:FsOk fnH:=
 fs_cons rwayS_ok <|
 fnG_ok
def fnI:FuncId→Option Fsp:=fun g=>
 if g=141 then some squareDS else
 fnH g
theorem fnI_ok:FsOk fnI:=
 fs_cons squareDS_ok <|
 fnH_ok
noncomputable def fnJ:FuncId→Option Fsp:=fun g=>
 if g=143 then some shareDS else
 fnI g
theorem fnJ_ok:FsOk fnJ:=
 fs_cons shareDS_ok <|
 fnI_ok
/-! Within. -/
def rwithS:Fsp:=fun _ args k=>match args with
 | [.agg [.int .i64 x,.int .i64 y],.int .i64 r]=>k (b2 (witV x y r) (witE x y r))
 | _=>none
theorem rwith_text (N n0:Nat) (α:Type) (x y r:Int) (k:AOut→Option α):evFn real tab ((twT fnJ (fun _=>none)).env real tab N (n0 + 1)) N Tryz.f88 α [sN x y,iN r] k =
 bif okB x then bif !okB y then k (b2 false 2) else bif !okB r then k (b2 false 2) else bif i7 r then bif decide (0≤ab r)&&decide (ab r≤9223372036854775807) then bif decide (r
 ≥ 0) then bif i7 x&&i7 y then bif isD (dg (ab r))&&isD (dg (ab r)) then bif isD (dg (sq2 x y))&&isD (dg (vl (dg (ab r)) * vl (dg (ab r)))) then k (b2 (decide (cmp3 (vl (dg
 (sq2 x y))) (vl (dg (vl (dg (ab r)) * vl (dg (ab r)))))≤0)) 0) else none else none else none else k (b2 false 0) else none else none else k (b2 false 2):=by kernel_rfl
theorem sq2_in7 {x y:Int} (hx:i7 x=true) (hy:i7 y=true):0≤sq2 x y∧sq2 x y≤170141183460469231694793815568465002498:=by
 have a:=(i7_D hx).2.2
 have b:=(i7_D hy).2.2
 unfold sq2; omega
theorem ab_sqD (x:Int):ab x * ab x=x * x:=by unfold ab; split; exact Int.neg_mul_neg x x; rfl
theorem rwithS_ok:FspOk Tryz.prog 88 rwithS:=tower_S fnJ_ok sp_nil ⟨Tryz.func88,fun _ _=>by kernel_rfl⟩ (by intro α args k; unfold rwithS; split<;>rfl) fun args out hs h=>by
 unfold rwithS at h
 split at h
 ·rename_i x y r
  refine ⟨1,1,(rwith_text 1 0 AOut x y r some).trans (Eq.trans ?_ h)⟩
  unfold witV witE witB
  cases hx:okB x
  ·rfl
  ·cases hy:okB y
   ·rfl
   ·cases hr:okB r
    ·rfl
    ·have a:=i7_ab (i7_ok hr)
     obtain ⟨r1,r2,r3⟩:=i7_D (i7_ok hr)
     have s:=sq2_in7 (i7_ok hx) (i7_ok hy)
     rw [i7_ok hx,i7_ok hy,i7_ok hr,decide_eq_true a.1,decide_eq_true a.2,r1,r2,isD_dg (n:=sq2 x y) ⟨s.1,by omega⟩,vl_dg _ s.1,isD_dg (n:=ab r * ab r) ⟨r3.1,by omega⟩,vl_dg _ r3.1,ab_sqD r]
     have e:decide (cmp3 (sq2 x y) (r * r)≤0)=decide (sq2 x y≤r * r):=by rw [decide_eq_decide]; exact cmp3_le0
     rw [e]
     by_cases h0:0≤r
     ·rw [decide_eq_true h0]; rfl
     ·rw [decide_eq_false h0]; rfl
 ·cases h
/-! Unit. -/
noncomputable def runitS:Fsp:=fun _ args k=>match args with
 | [.agg [.int .i64 x,.int .i64 y]]=>k (s2 (uniV x y x) (uniV x y y) (uniE x y))
 | _=>none
theorem runit_text (N n0:Nat) (α:Type) (x y:Int) (k:AOut→Option α):evFn real tab ((twT fnJ (fun _=>none)).env real tab N (n0 + 1)) N Tryz.f89 α [sN x y] k =
 bif okB x then bif !okB y then k (s2 0 0 2) else bif i7 x&&i7 y then bif ((dg (sq2 x y)).length:Int)==0 then k (s2 0 0 10) else bif shD x (dg (sq2 x y)) then bif shD y (dg
 (sq2 x y)) then k (s2 (sg (ngB x) (shr (ab x) (vl (dg (sq2 x y))))) (sg (ngB y) (shr (ab y) (vl (dg (sq2 x y))))) 0) else none else none else none else k (s2 0 0 2):=by kernel_rfl
theorem shD_of {x s:Int} (hx:i7 x=true) (h0:0 < s) (h1:s < 1393796574908163946345982392040522594123776) (h2:ab x * ab x≤s):shD x (dg s)=true:=by
 unfold shD
 rw [hx,isD_dg ⟨by omega,by omega⟩,vl_dg _ (by omega),decide_eq_true h0,decide_eq_true h1,decide_eq_true h2]; rfl
theorem dg_len0 (s:Int) (h:0≤s):(((dg s).length:Int)==0)=(s==0):=by
 by_cases c:s=0
 ·subst c; rfl
 ·rw [beq_eq_false_iff_ne.2 c]
  exact beq_eq_false_iff_ne.2 fun d=>c ((dg_nil h).1 (List.length_eq_zero_iff.1 (by omega)))
theorem runitS_ok:FspOk Tryz.prog 89 runitS:=tower_S fnJ_ok sp_nil ⟨Tryz.func89,fun _ _=>by kernel_rfl⟩ (by intro α args k; unfold runitS; split<;>rfl) fun args out hs h=>by
 unfold runitS at h
 split at h
 ·rename_i x y
  refine ⟨1,1,(runit_text 1 0 AOut x y some).trans (Eq.trans ?_ h)⟩
  unfold uniV uniE uniB
  cases hx:okB x
  ·rfl
  ·cases hy:okB y
   ·rfl
   ·have s:=sq2_in7 (i7_ok hx) (i7_ok hy)
    rw [i7_ok hx,i7_ok hy,dg_len0 _ s.1]
    cases hz:sq2 x y==0
    ·have a:=(i7_D (i7_ok hx)).2.2.1
     have b:=(i7_D (i7_ok hy)).2.2.1
     have z:=beq_eq_false_iff_ne.1 hz
     have e1:ab x * ab x≤sq2 x y:=by unfold sq2; omega
     have e2:ab y * ab y≤sq2 x y:=by unfold sq2; omega
     rw [shD_of (i7_ok hx) (by omega) (by omega) e1,shD_of (i7_ok hy) (by omega) (by omega) e2,vl_dg _ s.1]
     rfl
    ·rfl
 ·cases h
def ftV (n:Int) (s:Bool):Int:=bif s&&okB n then n else 0
def ftE (n:Int) (s:Bool):Int:=bif s&&okB n then 0 else 4
def rfitS:Fsp:=fun _ args k=>match args with
 | [.int .i64 n,.bool s]=>k (.ret (.tup [iN (ftV n s),iN (ftE n s)]))
 | _=>none
theorem rfit_text (N n0:Nat) (α:Type) (n:Int) (s:Bool) (k:AOut→Option α):evFn real tab ((twT fnJ (fun _=>none)).env real tab N n0) N Tryz.f147 α [iN n,.bool s] k =
 bif !s then k (.ret (.tup [iN 0,iN 4])) else bif decide (n < -70368744177664) then k (.ret (.tup [iN 0,iN 4])) else bif decide (n > 70368744177664) then k (.ret (.tup [iN 0,iN
 4])) else k (.ret (.tup [iN n,iN 0])):=by kernel_rfl
theorem rfitS_ok:FspOk Tryz.prog 147 rfitS:=tower_S fnJ_ok sp_nil ⟨Tryz.func147,fun _ _=>by kernel_rfl⟩ (by intro α args k; unfold rfitS; split<;>rfl) fun args out hs h=>by
 unfold rfitS at h
 split at h
 ·rename_i n s
  refine ⟨1,0,(rfit_text 1 0 AOut n s some).trans (Eq.trans ?_ h)⟩
  have e:okB n=(!decide (n < -70368744177664)&&!decide (n > 70368744177664)):=by
   rw [Bool.eq_iff_iff,ok_iff]; simp
  unfold ftV ftE
  rw [e]
  cases s<;>cases decide (n < -70368744177664)<;>cases decide (n > 70368744177664)<;>rfl
 ·cases h
noncomputable def fnK:FuncId→Option Fsp:=fun g=>
 if g=147 then some rfitS else
 fnJ g
theorem fnK_ok:FsOk fnK:=
 fs_cons rfitS_ok <|
 fnJ_ok
theorem ft_rnd {p d how:Int} (m:Bool) (h0:0≤p) (hd:0 < d) :
 ftV (rdN (dg p) (dg d) m how) (smB (vl (dg p) / vl (dg d)))=fxV m (rnd how m p d)∧ftE (rdN (dg p) (dg d) m how) (smB (vl (dg p) / vl (dg d)))=fxE (rnd how m p d):=by
 have n0:=rnd_nn (how:=how) (neg:=m) h0 hd
 unfold ftV ftE fxV fxE rdN rdQ
 rw [vl_dg _ h0,vl_dg _ (Int.le_of_lt hd)]
 cases hs:smB (p / d)
 ·have hf:fxB (rnd how m p d)=false:=by
   simp only [smB,decide_eq_false_iff_not] at hs
   unfold rnd fxB
   rw [decide_eq_false_iff_not]
   cases up1 how m (p % d) d<;>simp only [cond_true,cond_false]<;>omega
  rw [hf]; exact ⟨rfl,rfl⟩
 ·have hr:p / d + (bif up1 how m (p % d) d then 1 else 0)=rnd how m p d:=rfl
  rw [cond_true,hr]
  have hf:okB (sg m (rnd how m p d))=fxB (rnd how m p d):=by
   rw [Bool.eq_iff_iff,ok_iff]
   unfold fxB sg
   rw [decide_eq_true_iff]
   cases m<;>simp only [cond_true,cond_false]<;>omega
  rw [hf]; exact ⟨rfl,rfl⟩
theorem ov_dg {p d:Int} (h0:0≤p) (h1:p < 1532495540865888858358347027150309183618739122183602176) (hd:0 < d) (h2:d < 46768052394588893382517914646921056628989841375232):ovB (dg p) (dg d)=true:=by
 unfold ovB
 rw [isD_dg ⟨h0,h1⟩,isD_dg ⟨Int.le_of_lt hd,by omega⟩,vl_dg _ (Int.le_of_lt hd),decide_eq_true hd,decide_eq_true h2]; rfl
def ie (n e:Int):AOut:=.ret (.tup [iN n,iN e])
def qtK {α:Type} (p d:List Int) (m:Bool) (h:Int) (k:AOut→Option α):Option α:=
 bif ovB p d&&wayB h then k (ie (ftV (rdN p d m h) (smB (vl p / vl d))) (ftE (rdN p d m h) (smB (vl p / vl d)))) else none
theorem qtK_eq {α:Type} {p d h:Int} (m:Bool) (h0:0≤p) (h1:p < 1532495540865888858358347027150309183618739122183602176) (hd:0 < d) (h2:d < 46768052394588893382517914646921056628989841375232) (hw:wayB h=true) (k:AOut→Option α) :
 qtK (dg p) (dg d) m h k=k (ie (fxV m (rnd h m p d)) (fxE (rnd h m p d))):=by
 unfold qtK
 rw [ov_dg h0 h1 hd h2,hw,(ft_rnd m h0 hd).1,(ft_rnd m h0 hd).2]; rfl
def rmulS:Fsp:=fun _ args k=>match args with
 | [.int .i64 a,.int .i64 b,.int .i64 h]=>k (ie (mulV a b h) (mulE a b h))
 | _=>none
theorem rmul_text (N n0:Nat) (α:Type) (x y h:Int) (k:AOut→Option α):evFn real tab ((twT fnK (fun _=>none)).env real tab N (n0 + 1)) N Tryz.f96 α [iN x,iN y,iN h] k =
 bif okB x then bif !okB y then k (ie 0 2) else bif !wayB h then k (ie 0 2) else bif i7 x then bif decide (0≤ab x)&&decide (ab x≤9223372036854775807) then bif i7 y then bif
 decide (0≤ab y)&&decide (ab y≤9223372036854775807) then bif isD (dg (ab x))&&isD (dg (ab y)) then qtK (dg (vl (dg (ab x)) * vl (dg (ab y)))) (dg 65536) (!decide (x < 0) ==
 decide (y < 0)) h k else none else none else none else none else none else k (ie 0 2):=by kernel_rfl
theorem abmul_in {x y:Int} (hx:okB x=true) (hy:okB y=true):0≤ab x * ab y∧ab x * ab y≤4951760157141521099596496896:=
 ⟨Int.mul_nonneg (ab_nn x) (ab_nn y),Int.mul_le_mul (ok_ab hx) (ok_ab hy) (ab_nn y) (by omega)⟩
theorem rmulS_ok:FspOk Tryz.prog 96 rmulS:=tower_S fnK_ok sp_nil ⟨Tryz.func96,fun _ _=>by kernel_rfl⟩ (by intro α args k; unfold rmulS; split<;>rfl) fun args out hs h=>by
 unfold rmulS at h
 split at h
 ·rename_i x y w
  refine ⟨1,1,(rmul_text 1 0 AOut x y w some).trans (Eq.trans ?_ h)⟩
  unfold mulV mulE mulB prN
  cases hx:okB x
  ·rfl
  ·cases hy:okB y
   ·rfl
   ·cases hw:wayB w
    ·rfl
    ·have a:=i7_ab (i7_ok hx)
     have b:=i7_ab (i7_ok hy)
     have c:=abmul_in hx hy
     obtain ⟨x1,x2,_⟩:=i7_D (i7_ok hx)
     obtain ⟨y1,y2,_⟩:=i7_D (i7_ok hy)
     rw [i7_ok hx,i7_ok hy,decide_eq_true a.1,decide_eq_true a.2,decide_eq_true b.1,decide_eq_true b.2,x1,x2,y1,y2,qtK_eq _ c.1 (by omega) (by omega) (by omega) hw]
     have e:(!decide (x < 0)==decide (y < 0))=xorB (ngB x) (ngB y):=by unfold xorB ngB; cases decide (x < 0)<;>cases decide (y < 0)<;>rfl
     rw [e]; rfl
 ·cases h
/-! Products of spots. -/
theorem sg_mulD (a b:Int):sg (xorB (ngB a) (ngB b)) (ab a * ab b)=a * b:=by
 unfold sg xorB ngB ab
 by_cases ha:a < 0<;>by_cases hb:b < 0<;>simp [ha,hb,Int.neg_mul,Int.mul_neg]
theorem sum_sg {m n:Bool} {p q:Int} (hp:0≤p) (hq:0≤q):sg (sumB m n p q) (sumV m n p q)=sg m p + sg n q∧0≤sumV m n p q∧sumV m n p q≤p + q:=by
 unfold sumB sumV sg
 by_cases c:q≤p
 ·rw [decide_eq_true c]; cases m<;>cases n<;>simp<;>omega
 ·rw [decide_eq_false c]; cases m<;>cases n<;>simp<;>omega
theorem fx_sg {b:Bool} {v s how:Int} (h0:0≤v) (h:sg b v=s):fxV b (rnd how b v 65536)=fxV (ngB s) (rnd how (ngB s) (ab s) 65536)∧fxE (rnd how b v 65536)=fxE (rnd how (ngB s) (ab s) 65536):=by
 have e:ab s=v:=by subst h; unfold ab sg; cases b<;>simp<;>omega
 rw [e]
 by_cases c:v=0
 ·subst c
  have r:∀ m,rnd how m 0 65536=0:=fun m=>by unfold rnd up1; rfl
  rw [r,r]
  refine ⟨?_,rfl⟩
  unfold fxV sg; cases b<;>cases ngB s<;>rfl
 ·have d:b=ngB s:=by subst h; unfold ngB sg; cases b<;>simp<;>omega
  rw [← d]; exact ⟨rfl,rfl⟩
def rdotS:Fsp:=fun _ args k=>match args with
 | [.agg [.int .i64 x,.int .i64 y],.agg [.int .i64 u,.int .i64 v],.int .i64 h]=>k (ie (dotV x y u v h) (dotE x y u v h))
 | _=>none
theorem rdot_text (N n0:Nat) (α:Type) (x y u v h:Int) (k:AOut→Option α):evFn real tab ((twT fnK (fun _=>none)).env real tab N (n0 + 2)) N Tryz.f90 α [sN x y,sN u v,iN h] k =
 bif okB x then bif okB y then bif okB u then bif !okB v then k (ie 0 2) else bif !wayB h then k (ie 0 2) else bif i7 x&&i7 u then bif i7 y&&i7 v then bif isD (dg (ab x * ab u))
 && isD (dg (ab y * ab v)) then qtK (dg (sumV (xorB (ngB x) (ngB u)) (xorB (ngB y) (ngB v)) (vl (dg (ab x * ab u))) (vl (dg (ab y * ab v))))) (dg 65536) (sumB (xorB (ngB x) (ngB u))
 (xorB (ngB y) (ngB v)) (vl (dg (ab x * ab u))) (vl (dg (ab y * ab v)))) h k else none else none else none else k (ie 0 2) else k (ie 0 2) else k (ie 0 2):=by kernel_rfl
theorem rdotS_ok:FspOk Tryz.prog 90 rdotS:=tower_S fnK_ok sp_nil ⟨Tryz.func90,fun _ _=>by kernel_rfl⟩ (by intro α args k; unfold rdotS; split<;>rfl) fun args out hs h=>by
 unfold rdotS at h
 split at h
 ·rename_i x y u v w
  refine ⟨1,2,(rdot_text 1 0 AOut x y u v w some).trans (Eq.trans ?_ h)⟩
  unfold dotV dotE dotB dotN
  cases hx:okB x
  ·rfl
  ·cases hy:okB y
   ·rfl
   ·cases hu:okB u
    ·rfl
    ·cases hv:okB v
     ·rfl
     ·cases hw:wayB w
      ·rfl
      ·have c:=abmul_in hx hu
       have d:=abmul_in hy hv
       have s:=sum_sg (m:=xorB (ngB x) (ngB u)) (n:=xorB (ngB y) (ngB v)) c.1 d.1
       have t:=fx_sg (how:=w) s.2.1 (s.1.trans (show _=dotS x y u v by rw [sg_mulD,sg_mulD]; rfl))
       rw [i7_ok hx,i7_ok hy,i7_ok hu,i7_ok hv,isD_dg ⟨c.1,by omega⟩,isD_dg ⟨d.1,by omega⟩,vl_dg _ c.1,vl_dg _ d.1,qtK_eq _ s.2.1 (by omega) (by omega) (by omega) hw,t.1,t.2]
       rfl
 ·cases h
abbrev mxN (n:Int):Int:=if n < IntKind.i64.wrap (0 - n) then IntKind.i64.wrap (0 - n) else n
theorem mxN_eq {n:Int} (h:rateB n=true):mxN n=ab n:=by
 rw [rate_iff] at h
 unfold mxN ab
 rw [w64 _ (by omega)]
 split<;>split<;>omega
def rscaleS:Fsp:=fun _ args k=>match args with
 | [.int .i64 a,.int .i64 n,.int .i64 d,.int .i64 h]=>k (ie (scV a n d h) (scE a n d h))
 | _=>none
theorem rscale_text (N n0:Nat) (α:Type) (x n d h:Int) (k:AOut→Option α):evFn real tab ((twT fnK (fun _=>none)).env real tab N (n0 + 2)) N Tryz.f91 α [iN x,iN n,iN d,iN h] k =
 bif !okB x then k (ie 0 2) else bif !wayB h then k (ie 0 2) else bif decide (-2147483648≤n) then bif !decide (n≤2147483648) then k (ie 0 2) else bif decide (-2147483648≤d)
 then bif !decide (d≤2147483648) then k (ie 0 2) else bif d==0 then k (ie 0 10) else bif i7 x then bif decide (0≤ab x)&&decide (ab x≤9223372036854775807) then bif decide (0
 ≤ mxN n)&&decide (mxN n≤9223372036854775807) then bif isD (dg (ab x))&&isD (dg (mxN n)) then bif decide (0≤mxN d)&&decide (mxN d≤9223372036854775807) then qtK (dg (vl
 (dg (ab x)) * vl (dg (mxN n)))) (dg (mxN d)) (!(!decide (x < 0)==decide (n < 0))==decide (d < 0)) h k else none else none else none else none else none else k (ie 0 2) else k
 (ie 0 2):=by kernel_rfl
theorem rscaleS_ok:FspOk Tryz.prog 91 rscaleS:=tower_S fnK_ok sp_nil ⟨Tryz.func91,fun _ _=>by kernel_rfl⟩ (by intro α args k; unfold rscaleS; split<;>rfl) fun args out hs h=>by
 unfold rscaleS at h
 split at h
 ·rename_i x n d w
  refine ⟨1,2,(rscale_text 1 0 AOut x n d w some).trans (Eq.trans ?_ h)⟩
  have rn:rateB n=(decide (-2147483648≤n)&&decide (n≤2147483648)):=rfl
  have rd:rateB d=(decide (-2147483648≤d)&&decide (d≤2147483648)):=rfl
  unfold scV scE scB scN
  cases hx:okB x
  ·rfl
  ·cases hw:wayB w
   ·rfl
   ·cases hn:rateB n
    ·rw [rn] at hn
     cases p:decide (-2147483648≤n)
     ·rfl
     ·rw [p,Bool.true_and] at hn; rw [hn]; rfl
    ·have hn':=hn
     rw [rn,Bool.and_eq_true] at hn'
     rw [hn'.1,hn'.2]
     cases hd:rateB d
     ·rw [rd] at hd
      cases p:decide (-2147483648≤d)
      ·rfl
      ·rw [p,Bool.true_and] at hd; rw [hd]; rfl
     ·have hd':=hd
      rw [rd,Bool.and_eq_true] at hd'
      rw [hd'.1,hd'.2]
      cases hz:d==0
      ·have z:=beq_eq_false_iff_ne.1 hz
       have a:=i7_ab (i7_ok hx)
       obtain ⟨x1,x2,_⟩:=i7_D (i7_ok hx)
       have n1:=rate_iff.1 hn
       have d1:=rate_iff.1 hd
       have n2:0≤ab n∧ab n≤2147483648:=by unfold ab; split<;>omega
       have d2:0 < ab d∧ab d≤2147483648:=by unfold ab; split<;>omega
       have m:0≤ab x * ab n∧ab x * ab n≤70368744177664 * 2147483648:=⟨Int.mul_nonneg a.1 n2.1,Int.mul_le_mul (ok_ab hx) n2.2 n2.1 (by omega)⟩
       have e:(!(!decide (x < 0)==decide (n < 0))==decide (d < 0))=scG x n d:=by unfold scG xorB ngB; cases decide (x < 0)<;>cases decide (n < 0)<;>cases decide (d < 0)<;>rfl
       rw [mxN_eq hn,mxN_eq hd,i7_ok hx,decide_eq_true a.1,decide_eq_true a.2,decide_eq_true n2.1,decide_eq_true (show ab n≤9223372036854775807 by omega),decide_eq_true (Int.le_of_lt d2.1),decide_eq_true (show ab d≤9223372036854775807 by omega),x1,isD_dg (n:=ab n) ⟨n2.1,by omega⟩,x2,vl_dg _ n2.1,qtK_eq _ m.1 (by omega) d2.1 (by omega) hw,e]
       rfl
      ·rfl
 ·cases h
noncomputable def fnL:FuncId→Option Fsp:=fun g=>
 if g=96 then some rmulS else
 if g=90 then some rdotS else
 if g=91 then some rscaleS else
 if g=88 then some rwithS else
 if g=89 then some runitS else
 fnK g
theorem fnL_ok:FsOk fnL:=
 fs_cons rmulS_ok <|
 fs_cons rdotS_ok <|
 fs_cons rscaleS_ok <|
 fs_cons rwithS_ok <|
 fs_cons runitS_ok <|
 fnK_ok
theorem mulE_in (a b h:Int):mulE a b h=0∨mulE a b h=2∨mulE a b h=4:=by
 unfold mulE fxE
 cases mulB a b h
 ·exact .inr (.inl rfl)
 ·cases fxB (prN a b h)
  ·exact .inr (.inr rfl)
  ·exact .inl rfl
def rtimesS:Fsp:=fun _ args k=>match args with
 | [.agg [.int .i64 x,.int .i64 y],.int .i64 v,.int .i64 h]=>k (s2 (twoV (mulE x v h) (mulE y v h) (mulV x v h)) (twoV (mulE x v h) (mulE y v h) (mulV y v h)) (twoE (mulE x v h) (mulE y v h)))
 | _=>none
def bothK {α:Type} (x e y f:Int) (k:AOut→Option α):Option α:=
 bif e==2 then k (s2 0 0 2)
 else
  bif f==2 then k (s2 0 0 2)
  else
   bif e != 0 then k (s2 0 0 (if e < f then f else e))
   else bif f != 0 then k (s2 0 0 (if e < f then f else e)) else k (s2 x y 0)
theorem bothK_eq {α:Type} {x e y f:Int} (he:e=0∨e=2∨e=4) (hf:f=0∨f=2∨f=4) (k:AOut→Option α):bothK x e y f k=k (s2 (twoV e f x) (twoV e f y) (twoE e f)):=by
 rcases he with rfl | rfl | rfl<;>rcases hf with rfl | rfl | rfl<;>rfl
theorem rtimes_text (N n0:Nat) (α:Type) (x y v h:Int) (k:AOut→Option α):evFn real tab ((twT fnL (fun _=>none)).env real tab N (n0 + 2)) N Tryz.f92 α [sN x y,iN v,iN h] k=bothK (mulV x v h) (mulE x v h) (mulV y v h) (mulE y v h) k:=by kernel_rfl
theorem rtimesS_ok:FspOk Tryz.prog 92 rtimesS:=tower_S fnL_ok sp_nil ⟨Tryz.func92,fun _ _=>by kernel_rfl⟩ (by intro α args k; unfold rtimesS; split<;>rfl) fun args out hs h=>by
 unfold rtimesS at h
 split at h
 ·rename_i x y v w
  exact ⟨1,2,(rtimes_text 1 0 AOut x y v w some).trans ((bothK_eq (mulE_in ..) (mulE_in ..) _).trans h)⟩
 ·cases h
noncomputable def fnM:FuncId→Option Fsp:=fun g=>
 if g=92 then some rtimesS else
 fnL g
theorem fnM_ok:FsOk fnM:=
 fs_cons rtimesS_ok <|
 fnL_ok
theorem and_k {α:Type} (a b:Bool) (k:AOut→Option α):(bif a then k (b1 b) else k (b1 false))=k (b1 (a&&b)):=by cases a<;>rfl
def rspoB (x y:Int):Bool:=decide (x ≥ -6553600000)&&(decide (x≤6553600000)&&(decide (y ≥ -6553600000)&&decide (y≤6553600000)))
def rspC:Fsp:=fun _ args k=>match args with
 | [.agg [.int .i64 x,.int .i64 y]]=>k (b1 (rspoB x y))
 | _=>none
theorem rspC_text (N n0:Nat) (α:Type) (x y:Int) (k:AOut→Option α):evFn real tab ((twT fnM (fun _=>none)).env real tab N n0) N Tryz.f85 α [sN x y] k =
 bif decide (x ≥ -6553600000) then bif decide (x≤6553600000) then bif decide (y ≥ -6553600000) then k (b1 (decide (y≤6553600000))) else k (b1 false) else k (b1 false) else k (b1
 false):=by kernel_rfl
theorem rspC_ok:FspOk Tryz.prog 85 rspC:=tower_S fnM_ok sp_nil ⟨Tryz.func85,fun _ _=>by kernel_rfl⟩ (by intro α args k; unfold rspC; split<;>rfl) fun args out hs h=>by
 unfold rspC at h
 split at h
 ·rename_i x y
  refine ⟨1,0,(rspC_text 1 0 AOut x y some).trans (Eq.trans ?_ h)⟩
  rw [and_k,and_k,and_k]; rfl
 ·cases h
def rtchB (x y u v:Int) (o p:Bool):Bool:=!o&&(!p&&(witV (u - x) (v - y) 19005440&&(u - x != 0 || v - y != 0)))
def rtouchS:Fsp:=fun _ args k=>match args with
 | [.agg [.int .i64 _,.int .i64 _,.int .i64 x,.int .i64 y,.int .i64 _,.int .i64 _,.int .i64 _,.bool o],.agg [.int .i64 _,.int .i64 _,.int .i64 u,.int .i64 v,.int .i64 _,.int .i64 _,.int .i64 _,.bool p]]=>
   bif rspoB x y&&rspoB u v then k (b1 (rtchB x y u v o p)) else none
 | _=>none
theorem rtouch_text (N n0:Nat) (α:Type) (t n x y sx sy sp t' n' u v sx' sy' sp':Int) (o p:Bool) (k:AOut→Option α):evFn real tab ((twT fnM (fun _=>none)).env real tab N n0) N Tryz.f54 α [.agg [iN t,iN n,iN x,iN y,iN sx,iN sy,iN sp,bN o],.agg [iN t',iN n',iN u,iN v,iN sx',iN sy',iN sp',bN p]] k =
 bif !o then bif !p then bif witV (IntKind.i64.wrap (u - x)) (IntKind.i64.wrap (v - y)) 19005440 then bif IntKind.i64.wrap (u - x) != 0 then k (b1 true) else k (b1 (IntKind.i64.wrap
 (v - y) != 0)) else k (b1 false) else k (b1 false) else k (b1 false):=by kernel_rfl
theorem rspo_iff {x y:Int}:rspoB x y=true↔(-6553600000≤x∧x≤6553600000)∧-6553600000≤y∧y≤6553600000:=by
 simp only [rspoB,Bool.and_eq_true,decide_eq_true_eq]; omega
theorem rtouchS_ok:FspOk Tryz.prog 54 rtouchS:=tower_S fnM_ok sp_nil ⟨Tryz.func54,fun _ _=>by kernel_rfl⟩ (by intro α args k; unfold rtouchS; split<;>simp only [cond_bind,Option.bind_some,Option.bind_none]) fun args out hs h=>by
 unfold rtouchS at h
 split at h
 ·rename_i t n x y sx sy sp o t' n' u v sx' sy' sp' p
  cases hb:rspoB x y&&rspoB u v
  ·rw [hb] at h; cases h
  ·rw [hb,cond_true] at h
   rw [Bool.and_eq_true] at hb
   have a:=rspo_iff.1 hb.1
   have b:=rspo_iff.1 hb.2
   refine ⟨1,0,(rtouch_text 1 0 AOut t n x y sx sy sp t' n' u v sx' sy' sp' o p some).trans (Eq.trans ?_ h)⟩
   rw [w64 _ (by omega),w64 _ (by omega)]
   unfold rtchB
   cases o<;>cases p<;>cases witV (u - x) (v - y) 19005440<;>cases (u - x != 0)<;>rfl
 ·cases h
def rbodB (t n x y sx sy sp:Int):Bool:=decide (0≤t)&&(decide (t≤1)&&(decide (0≤n)&&(decide (n≤7)&&(decide (sx ≥ -65536000)&&(decide (sy ≥ -65536000)&&(decide (sx≤65536000)&&(decide (sy≤65536000)&&(decide (x ≥ -6553600000)&&(decide (x≤6553600000)&&(decide (y ≥ -6553600000)&&(decide (y≤6553600000)&&(decide (-1000≤sp)&&decide (sp≤1000)))))))))))))
def rbodyS:Fsp:=fun _ args k=>match args with
 | [.agg [.int .i64 t,.int .i64 n,.int .i64 x,.int .i64 y,.int .i64 sx,.int .i64 sy,.int .i64 sp,.bool _]]=>k (b1 (rbodB t n x y sx sy sp))
 | _=>none
theorem rbody_text (N n0:Nat) (α:Type) (t n x y sx sy sp:Int) (o:Bool) (k:AOut→Option α):evFn real tab ((twT fnM (fun _=>none)).env real tab N (n0 + 4)) N Tryz.f32 α [.agg [iN t,iN n,iN x,iN y,iN sx,iN sy,iN sp,bN o]] k =
 bif decide (0≤t) then bif decide (t≤1) then bif decide (0≤n) then bif decide (n≤7) then bif decide (sx ≥ -65536000) then bif decide (sy ≥ -65536000) then bif decide (sx ≤
 65536000) then bif decide (sy≤65536000) then bif decide (x ≥ -6553600000) then bif decide (x≤6553600000) then bif decide (y ≥ -6553600000) then bif decide (y≤6553600000) then
 bif decide (-1000≤sp) then k (b1 (decide (sp≤1000))) else k (b1 false) else k (b1 false) else k (b1 false) else k (b1 false) else k (b1 false) else k (b1 false) else k (b1
 false) else bif decide (sx≤65536000) then k (b1 false) else k (b1 false) else bif decide (sy ≥ -65536000) then k (b1 false) else k (b1 false) else k (b1 false) else k (b1 false)
 else k (b1 false) else k (b1 false):=by kernel_rfl
theorem rbodyS_ok:FspOk Tryz.prog 32 rbodyS:=tower_S fnM_ok sp_nil ⟨Tryz.func32,fun _ _=>by kernel_rfl⟩ (by intro α args k; unfold rbodyS; split<;>rfl) fun args out hs h=>by
 unfold rbodyS at h
 split at h
 ·rename_i t n x y sx sy sp o
  refine ⟨1,4,(rbody_text 1 0 AOut t n x y sx sy sp o some).trans (Eq.trans ?_ h)⟩
  simp only [and_k,Bool.and_false]; rfl
 ·cases h
noncomputable def fnN:FuncId→Option Fsp:=fun g=>
 if g=85 then some rspC else
 if g=54 then some rtouchS else
 if g=32 then some rbodyS else
 fnM g
theorem fnN_ok:FsOk fnN:=
 fs_cons rspC_ok <|
 fs_cons rtouchS_ok <|
 fs_cons rbodyS_ok <|
 fnM_ok
abbrev bodN (t n x y sx sy sp:Int) (o:Bool):AVal:=.agg [iN t,iN n,iN x,iN y,iN sx,iN sy,iN sp,bN o]
set_option maxRecDepth 100000 in
theorem rmeet0_text (N n0:Nat) (α:Type) (t n x y sx sy sp:Int) (o:Bool) (t' n' x' y' sx' sy' sp':Int) (o':Bool) (el:Int) (k:AOut→Option α):evFn real tab ((twT fnN (fun _=>none)).env real tab N (n0 + 4)) N Tryz.f55 α [bodN t n x y sx sy sp o,bodN t' n' x' y' sx' sy' sp' o',iN el] k =
 bif decide (dotV (IntKind.i64.wrap (sx - sx')) (IntKind.i64.wrap (sy - sy')) (uniV (IntKind.i64.wrap (x' - x)) (IntKind.i64.wrap (y' - y)) (IntKind.i64.wrap (x' - x))) (uniV
 (IntKind.i64.wrap (x' - x)) (IntKind.i64.wrap (y' - y)) (IntKind.i64.wrap (y' - y))) 1≤0) then k (AOut.ret (AVal.tup [AVal.agg [AVal.int IntKind.i64 t,AVal.int IntKind.i64 n,
 AVal.int IntKind.i64 x,AVal.int IntKind.i64 y,AVal.int IntKind.i64 sx,AVal.int IntKind.i64 sy,AVal.int IntKind.i64 sp,AVal.bool o,AVal.int IntKind.i64 t',AVal.int IntKind.i64
 n',AVal.int IntKind.i64 x',AVal.int IntKind.i64 y',AVal.int IntKind.i64 sx',AVal.int IntKind.i64 sy',AVal.int IntKind.i64 sp',AVal.bool o',AVal.bool false],AVal.int
 IntKind.i64 0])) else bif !rbodB t n x y (IntKind.i64.wrap (sx - twoV (mulE (uniV (IntKind.i64.wrap (x' - x)) (IntKind.i64.wrap (y' - y)) (IntKind.i64.wrap (x' - x))) (scV (dotV
 (IntKind.i64.wrap (sx - sx')) (IntKind.i64.wrap (sy - sy')) (uniV (IntKind.i64.wrap (x' - x)) (IntKind.i64.wrap (y' - y)) (IntKind.i64.wrap (x' - x))) (uniV (IntKind.i64.wrap (x' -
 x)) (IntKind.i64.wrap (y' - y)) (IntKind.i64.wrap (y' - y))) 1) (IntKind.i64.wrap (1000 + el)) 2000 0) 0) (mulE (uniV (IntKind.i64.wrap (x' - x)) (IntKind.i64.wrap (y' - y))
 (IntKind.i64.wrap (y' - y))) (scV (dotV (IntKind.i64.wrap (sx - sx')) (IntKind.i64.wrap (sy - sy')) (uniV (IntKind.i64.wrap (x' - x)) (IntKind.i64.wrap (y' - y)) (IntKind.i64.wrap
 (x' - x))) (uniV (IntKind.i64.wrap (x' - x)) (IntKind.i64.wrap (y' - y)) (IntKind.i64.wrap (y' - y))) 1) (IntKind.i64.wrap (1000 + el)) 2000 0) 0) (mulV (uniV (IntKind.i64.wrap (x'
 - x)) (IntKind.i64.wrap (y' - y)) (IntKind.i64.wrap (x' - x))) (scV (dotV (IntKind.i64.wrap (sx - sx')) (IntKind.i64.wrap (sy - sy')) (uniV (IntKind.i64.wrap (x' - x))
 (IntKind.i64.wrap (y' - y)) (IntKind.i64.wrap (x' - x))) (uniV (IntKind.i64.wrap (x' - x)) (IntKind.i64.wrap (y' - y)) (IntKind.i64.wrap (y' - y))) 1) (IntKind.i64.wrap (1000 + el))
 2000 0) 0))) (IntKind.i64.wrap (sy - twoV (mulE (uniV (IntKind.i64.wrap (x' - x)) (IntKind.i64.wrap (y' - y)) (IntKind.i64.wrap (x' - x))) (scV (dotV (IntKind.i64.wrap (sx - sx'))
 (IntKind.i64.wrap (sy - sy')) (uniV (IntKind.i64.wrap (x' - x)) (IntKind.i64.wrap (y' - y)) (IntKind.i64.wrap (x' - x))) (uniV (IntKind.i64.wrap (x' - x)) (IntKind.i64.wrap (y' -
 y)) (IntKind.i64.wrap (y' - y))) 1) (IntKind.i64.wrap (1000 + el)) 2000 0) 0) (mulE (uniV (IntKind.i64.wrap (x' - x)) (IntKind.i64.wrap (y' - y)) (IntKind.i64.wrap (y' - y))) (scV
 (dotV (IntKind.i64.wrap (sx - sx')) (IntKind.i64.wrap (sy - sy')) (uniV (IntKind.i64.wrap (x' - x)) (IntKind.i64.wrap (y' - y)) (IntKind.i64.wrap (x' - x))) (uniV (IntKind.i64.wrap
 (x' - x)) (IntKind.i64.wrap (y' - y)) (IntKind.i64.wrap (y' - y))) 1) (IntKind.i64.wrap (1000 + el)) 2000 0) 0) (mulV (uniV (IntKind.i64.wrap (x' - x)) (IntKind.i64.wrap (y' - y))
 (IntKind.i64.wrap (y' - y))) (scV (dotV (IntKind.i64.wrap (sx - sx')) (IntKind.i64.wrap (sy - sy')) (uniV (IntKind.i64.wrap (x' - x)) (IntKind.i64.wrap (y' - y)) (IntKind.i64.wrap
 (x' - x))) (uniV (IntKind.i64.wrap (x' - x)) (IntKind.i64.wrap (y' - y)) (IntKind.i64.wrap (y' - y))) 1) (IntKind.i64.wrap (1000 + el)) 2000 0) 0))) sp then k (AOut.ret (AVal.tup
 [AVal.agg [AVal.int IntKind.i64 0,AVal.int IntKind.i64 0,AVal.int IntKind.i64 0,AVal.int IntKind.i64 0,AVal.int IntKind.i64 0,AVal.int IntKind.i64 0,AVal.int IntKind.i64 0,
 AVal.bool false,AVal.int IntKind.i64 0,AVal.int IntKind.i64 0,AVal.int IntKind.i64 0,AVal.int IntKind.i64 0,AVal.int IntKind.i64 0,AVal.int IntKind.i64 0,AVal.int IntKind.i64
 0,AVal.bool false,AVal.bool false],AVal.int IntKind.i64 4])) else bif !rbodB t' n' x' y' (IntKind.i64.wrap (sx' + twoV (mulE (uniV (IntKind.i64.wrap (x' - x)) (IntKind.i64.wrap
 (y' - y)) (IntKind.i64.wrap (x' - x))) (scV (dotV (IntKind.i64.wrap (sx - sx')) (IntKind.i64.wrap (sy - sy')) (uniV (IntKind.i64.wrap (x' - x)) (IntKind.i64.wrap (y' - y))
 (IntKind.i64.wrap (x' - x))) (uniV (IntKind.i64.wrap (x' - x)) (IntKind.i64.wrap (y' - y)) (IntKind.i64.wrap (y' - y))) 1) (IntKind.i64.wrap (1000 + el)) 2000 0) 0) (mulE (uniV
 (IntKind.i64.wrap (x' - x)) (IntKind.i64.wrap (y' - y)) (IntKind.i64.wrap (y' - y))) (scV (dotV (IntKind.i64.wrap (sx - sx')) (IntKind.i64.wrap (sy - sy')) (uniV (IntKind.i64.wrap
 (x' - x)) (IntKind.i64.wrap (y' - y)) (IntKind.i64.wrap (x' - x))) (uniV (IntKind.i64.wrap (x' - x)) (IntKind.i64.wrap (y' - y)) (IntKind.i64.wrap (y' - y))) 1) (IntKind.i64.wrap
 (1000 + el)) 2000 0) 0) (mulV (uniV (IntKind.i64.wrap (x' - x)) (IntKind.i64.wrap (y' - y)) (IntKind.i64.wrap (x' - x))) (scV (dotV (IntKind.i64.wrap (sx - sx')) (IntKind.i64.wrap
 (sy - sy')) (uniV (IntKind.i64.wrap (x' - x)) (IntKind.i64.wrap (y' - y)) (IntKind.i64.wrap (x' - x))) (uniV (IntKind.i64.wrap (x' - x)) (IntKind.i64.wrap (y' - y))
 (IntKind.i64.wrap (y' - y))) 1) (IntKind.i64.wrap (1000 + el)) 2000 0) 0))) (IntKind.i64.wrap (sy' + twoV (mulE (uniV (IntKind.i64.wrap (x' - x)) (IntKind.i64.wrap (y' - y))
 (IntKind.i64.wrap (x' - x))) (scV (dotV (IntKind.i64.wrap (sx - sx')) (IntKind.i64.wrap (sy - sy')) (uniV (IntKind.i64.wrap (x' - x)) (IntKind.i64.wrap (y' - y)) (IntKind.i64.wrap
 (x' - x))) (uniV (IntKind.i64.wrap (x' - x)) (IntKind.i64.wrap (y' - y)) (IntKind.i64.wrap (y' - y))) 1) (IntKind.i64.wrap (1000 + el)) 2000 0) 0) (mulE (uniV (IntKind.i64.wrap (x'
 - x)) (IntKind.i64.wrap (y' - y)) (IntKind.i64.wrap (y' - y))) (scV (dotV (IntKind.i64.wrap (sx - sx')) (IntKind.i64.wrap (sy - sy')) (uniV (IntKind.i64.wrap (x' - x))
 (IntKind.i64.wrap (y' - y)) (IntKind.i64.wrap (x' - x))) (uniV (IntKind.i64.wrap (x' - x)) (IntKind.i64.wrap (y' - y)) (IntKind.i64.wrap (y' - y))) 1) (IntKind.i64.wrap (1000 + el))
 2000 0) 0) (mulV (uniV (IntKind.i64.wrap (x' - x)) (IntKind.i64.wrap (y' - y)) (IntKind.i64.wrap (y' - y))) (scV (dotV (IntKind.i64.wrap (sx - sx')) (IntKind.i64.wrap (sy - sy'))
 (uniV (IntKind.i64.wrap (x' - x)) (IntKind.i64.wrap (y' - y)) (IntKind.i64.wrap (x' - x))) (uniV (IntKind.i64.wrap (x' - x)) (IntKind.i64.wrap (y' - y)) (IntKind.i64.wrap (y' - y)))
 1) (IntKind.i64.wrap (1000 + el)) 2000 0) 0))) sp' then k (AOut.ret (AVal.tup [AVal.agg [AVal.int IntKind.i64 0,AVal.int IntKind.i64 0,AVal.int IntKind.i64 0,AVal.int IntKind.i64
 0,AVal.int IntKind.i64 0,AVal.int IntKind.i64 0,AVal.int IntKind.i64 0,AVal.bool false,AVal.int IntKind.i64 0,AVal.int IntKind.i64 0,AVal.int IntKind.i64 0,AVal.int
 IntKind.i64 0,AVal.int IntKind.i64 0,AVal.int IntKind.i64 0,AVal.int IntKind.i64 0,AVal.bool false,AVal.bool false],AVal.int IntKind.i64 4])) else k (AOut.ret (AVal.tup
 [AVal.agg [AVal.int IntKind.i64 t,AVal.int IntKind.i64 n,AVal.int IntKind.i64 x,AVal.int IntKind.i64 y,AVal.int IntKind.i64 (IntKind.i64.wrap (sx - twoV (mulE (uniV
 (IntKind.i64.wrap (x' - x)) (IntKind.i64.wrap (y' - y)) (IntKind.i64.wrap (x' - x))) (scV (dotV (IntKind.i64.wrap (sx - sx')) (IntKind.i64.wrap (sy - sy')) (uniV (IntKind.i64.wrap
 (x' - x)) (IntKind.i64.wrap (y' - y)) (IntKind.i64.wrap (x' - x))) (uniV (IntKind.i64.wrap (x' - x)) (IntKind.i64.wrap (y' - y)) (IntKind.i64.wrap (y' - y))) 1) (IntKind.i64.wrap
 (1000 + el)) 2000 0) 0) (mulE (uniV (IntKind.i64.wrap (x' - x)) (IntKind.i64.wrap (y' - y)) (IntKind.i64.wrap (y' - y))) (scV (dotV (IntKind.i64.wrap (sx - sx')) (IntKind.i64.wrap
 (sy - sy')) (uniV (IntKind.i64.wrap (x' - x)) (IntKind.i64.wrap (y' - y)) (IntKind.i64.wrap (x' - x))) (uniV (IntKind.i64.wrap (x' - x)) (IntKind.i64.wrap (y' - y))
 (IntKind.i64.wrap (y' - y))) 1) (IntKind.i64.wrap (1000 + el)) 2000 0) 0) (mulV (uniV (IntKind.i64.wrap (x' - x)) (IntKind.i64.wrap (y' - y)) (IntKind.i64.wrap (x' - x))) (scV (dotV
 (IntKind.i64.wrap (sx - sx')) (IntKind.i64.wrap (sy - sy')) (uniV (IntKind.i64.wrap (x' - x)) (IntKind.i64.wrap (y' - y)) (IntKind.i64.wrap (x' - x))) (uniV (IntKind.i64.wrap (x' -
 x)) (IntKind.i64.wrap (y' - y)) (IntKind.i64.wrap (y' - y))) 1) (IntKind.i64.wrap (1000 + el)) 2000 0) 0))),AVal.int IntKind.i64 (IntKind.i64.wrap (sy - twoV (mulE (uniV
 (IntKind.i64.wrap (x' - x)) (IntKind.i64.wrap (y' - y)) (IntKind.i64.wrap (x' - x))) (scV (dotV (IntKind.i64.wrap (sx - sx')) (IntKind.i64.wrap (sy - sy')) (uniV (IntKind.i64.wrap
 (x' - x)) (IntKind.i64.wrap (y' - y)) (IntKind.i64.wrap (x' - x))) (uniV (IntKind.i64.wrap (x' - x)) (IntKind.i64.wrap (y' - y)) (IntKind.i64.wrap (y' - y))) 1) (IntKind.i64.wrap
 (1000 + el)) 2000 0) 0) (mulE (uniV (IntKind.i64.wrap (x' - x)) (IntKind.i64.wrap (y' - y)) (IntKind.i64.wrap (y' - y))) (scV (dotV (IntKind.i64.wrap (sx - sx')) (IntKind.i64.wrap
 (sy - sy')) (uniV (IntKind.i64.wrap (x' - x)) (IntKind.i64.wrap (y' - y)) (IntKind.i64.wrap (x' - x))) (uniV (IntKind.i64.wrap (x' - x)) (IntKind.i64.wrap (y' - y))
 (IntKind.i64.wrap (y' - y))) 1) (IntKind.i64.wrap (1000 + el)) 2000 0) 0) (mulV (uniV (IntKind.i64.wrap (x' - x)) (IntKind.i64.wrap (y' - y)) (IntKind.i64.wrap (y' - y))) (scV (dotV
 (IntKind.i64.wrap (sx - sx')) (IntKind.i64.wrap (sy - sy')) (uniV (IntKind.i64.wrap (x' - x)) (IntKind.i64.wrap (y' - y)) (IntKind.i64.wrap (x' - x))) (uniV (IntKind.i64.wrap (x' -
 x)) (IntKind.i64.wrap (y' - y)) (IntKind.i64.wrap (y' - y))) 1) (IntKind.i64.wrap (1000 + el)) 2000 0) 0))),AVal.int IntKind.i64 sp,AVal.bool o,AVal.int IntKind.i64 t',AVal.int
 IntKind.i64 n',AVal.int IntKind.i64 x',AVal.int IntKind.i64 y',AVal.int IntKind.i64 (IntKind.i64.wrap (sx' + twoV (mulE (uniV (IntKind.i64.wrap (x' - x)) (IntKind.i64.wrap (y' -
 y)) (IntKind.i64.wrap (x' - x))) (scV (dotV (IntKind.i64.wrap (sx - sx')) (IntKind.i64.wrap (sy - sy')) (uniV (IntKind.i64.wrap (x' - x)) (IntKind.i64.wrap (y' - y))
 (IntKind.i64.wrap (x' - x))) (uniV (IntKind.i64.wrap (x' - x)) (IntKind.i64.wrap (y' - y)) (IntKind.i64.wrap (y' - y))) 1) (IntKind.i64.wrap (1000 + el)) 2000 0) 0) (mulE (uniV
 (IntKind.i64.wrap (x' - x)) (IntKind.i64.wrap (y' - y)) (IntKind.i64.wrap (y' - y))) (scV (dotV (IntKind.i64.wrap (sx - sx')) (IntKind.i64.wrap (sy - sy')) (uniV (IntKind.i64.wrap
 (x' - x)) (IntKind.i64.wrap (y' - y)) (IntKind.i64.wrap (x' - x))) (uniV (IntKind.i64.wrap (x' - x)) (IntKind.i64.wrap (y' - y)) (IntKind.i64.wrap (y' - y))) 1) (IntKind.i64.wrap
 (1000 + el)) 2000 0) 0) (mulV (uniV (IntKind.i64.wrap (x' - x)) (IntKind.i64.wrap (y' - y)) (IntKind.i64.wrap (x' - x))) (scV (dotV (IntKind.i64.wrap (sx - sx')) (IntKind.i64.wrap
 (sy - sy')) (uniV (IntKind.i64.wrap (x' - x)) (IntKind.i64.wrap (y' - y)) (IntKind.i64.wrap (x' - x))) (uniV (IntKind.i64.wrap (x' - x)) (IntKind.i64.wrap (y' - y))
 (IntKind.i64.wrap (y' - y))) 1) (IntKind.i64.wrap (1000 + el)) 2000 0) 0))),AVal.int IntKind.i64 (IntKind.i64.wrap (sy' + twoV (mulE (uniV (IntKind.i64.wrap (x' - x))
 (IntKind.i64.wrap (y' - y)) (IntKind.i64.wrap (x' - x))) (scV (dotV (IntKind.i64.wrap (sx - sx')) (IntKind.i64.wrap (sy - sy')) (uniV (IntKind.i64.wrap (x' - x)) (IntKind.i64.wrap
 (y' - y)) (IntKind.i64.wrap (x' - x))) (uniV (IntKind.i64.wrap (x' - x)) (IntKind.i64.wrap (y' - y)) (IntKind.i64.wrap (y' - y))) 1) (IntKind.i64.wrap (1000 + el)) 2000 0) 0) (mulE
 (uniV (IntKind.i64.wrap (x' - x)) (IntKind.i64.wrap (y' - y)) (IntKind.i64.wrap (y' - y))) (scV (dotV (IntKind.i64.wrap (sx - sx')) (IntKind.i64.wrap (sy - sy')) (uniV
 (IntKind.i64.wrap (x' - x)) (IntKind.i64.wrap (y' - y)) (IntKind.i64.wrap (x' - x))) (uniV (IntKind.i64.wrap (x' - x)) (IntKind.i64.wrap (y' - y)) (IntKind.i64.wrap (y' - y))) 1)
 (IntKind.i64.wrap (1000 + el)) 2000 0) 0) (mulV (uniV (IntKind.i64.wrap (x' - x)) (IntKind.i64.wrap (y' - y)) (IntKind.i64.wrap (y' - y))) (scV (dotV (IntKind.i64.wrap (sx - sx'))
 (IntKind.i64.wrap (sy - sy')) (uniV (IntKind.i64.wrap (x' - x)) (IntKind.i64.wrap (y' - y)) (IntKind.i64.wrap (x' - x))) (uniV (IntKind.i64.wrap (x' - x)) (IntKind.i64.wrap (y' -
 y)) (IntKind.i64.wrap (y' - y))) 1) (IntKind.i64.wrap (1000 + el)) 2000 0) 0))),AVal.int IntKind.i64 sp',AVal.bool o',AVal.bool true],AVal.int IntKind.i64 0])):=by kernel_rfl
def gonB (x y:Int):Bool:=decide (x ≥ 146145280) || (decide (x≤-146145280) || (decide (y > 129368064) || decide (y < -1977417728)))
theorem rbod_eq (t n x y sx sy sp:Int):rbodB t n x y sx sy sp=bodB t n x y sx sy sp:=by
 rw [Bool.eq_iff_iff,bod_is]
 simp only [rbodB,Bool.and_eq_true,decide_eq_true_eq]
 exact ⟨fun h=>by obtain ⟨a,b,c,d,e,f,g,h,i,j,k,l,m,n⟩:=h; exact ⟨⟨a,b⟩,⟨c,d⟩,⟨i,j⟩,⟨k,l⟩,⟨e,g⟩,⟨f,h⟩,⟨m,n⟩⟩,fun h=>⟨h.t.1,h.t.2,h.n.1,h.n.2,h.sx.1,h.sy.1,h.sx.2,h.sy.2,h.x.1,h.x.2,h.y.1,h.y.2,h.sp.1,h.sp.2⟩⟩
theorem rspo_of {t n x y sx sy sp:Int} (h:BodIs t n x y sx sy sp):rspoB x y=true:=rspo_iff.2 ⟨h.x,h.y⟩
theorem tch_eq {t n x y sx sy sp t' n' x' y' sx' sy' sp':Int} (o o':Bool) (a:BodIs t n x y sx sy sp) (b:BodIs t' n' x' y' sx' sy' sp'):rtchB x y x' y' o o'=tchB x y x' y' o o':=by
 have m1:=mi_small (B:=6553600000) (by omega) b.x b.y a.x a.y
 unfold rtchB tchB
 rw [m1.2.1,m1.2.2]
 cases o<;>cases o'<;>simp [bne,Bool.not_and]
/-! A contact. -/
theorem rdt_down {rx ry wx wy:Int} (hr:(-131072000≤rx∧rx≤131072000)∧(-131072000≤ry∧ry≤131072000)) (hw:(-65536≤wx∧wx≤65536)∧(-65536≤wy∧wy≤65536)):dotV rx ry wx wy 1=mJ rx ry wx wy:=by
 have a:=mul_bd hr.1 hw.1 (by omega)
 have b:=mul_bd hr.2 hw.2 (by omega)
 have hs:ab (dotS rx ry wx wy)≤262144000 * 65536:=ab_le.2 (by unfold dotS; omega)
 have hq:=div_le (show (0:Int) < 65536 by omega) hs
 have hd:=rnd_down (s:=dotS rx ry wx wy) (show (0:Int) < 65536 by omega)
 have hle:dotN rx ry wx wy 1≤262144001:=by
  unfold dotN rnd
  cases up1 1 (ngB (dotS rx ry wx wy)) (ab (dotS rx ry wx wy) % 65536) 65536<;>simp only [cond_true,cond_false]<;>omega
 unfold dotV dotB fxV
 rw [ok_le hr.1 (by omega),ok_le hr.2 (by omega),ok_le hw.1 (by omega),ok_le hw.2 (by omega),fx_of (by omega)]
 exact hd
theorem rsl_cut {j el:Int} (hj:0 < j∧j≤262144000) (he:0≤el∧el≤1000):scV j (1000 + el) 2000 0=mI j el:=by
 have e1:ab j=j:=by unfold ab; rw [if_neg (by omega)]
 have e2:ab (1000 + el)=1000 + el:=by unfold ab; rw [if_neg (by omega)]
 have g:scG j (1000 + el) 2000=false:=by unfold scG ngB; rw [decide_eq_false (by omega),decide_eq_false (by omega)]; rfl
 have I:=(sl_cut hj he).2.2
 have hP:scN j (1000 + el) 2000 0=mI j el:=by
  unfold scN
  rw [g,e1,e2,show ab 2000=2000 from rfl,rnd_cut]; rfl
 have hk:scB j (1000 + el) 2000 0=true:=by
  unfold scB; rw [ok_le (B:=262144000) (by omega) (by omega),rate_iff.2 (by omega),rate_iff.2 (by omega)]; rfl
 have hfx:fxB (mI j el)=true:=fx_of (by omega)
 unfold scV fxV; rw [hk,hP,hfx,g]; rfl
theorem rmul_cut {w i:Int} (hw:-65536≤w∧w≤65536) (hi:0≤i∧i≤262144000):mulE w i 0=0∧mulV w i 0=mP w i:=by
 have a:=mP_in hw hi.1
 have e2:ab i=i:=by unfold ab; rw [if_neg (by omega)]
 have g:ngB i=false:=decide_eq_false (by omega)
 have gx:xorB (ngB w) false=ngB w:=by cases ngB w<;>rfl
 have hP:prN w i 0=ab w * i / 65536:=by unfold prN; rw [e2,rnd_cut]
 have hB:mulB w i 0=true:=by unfold mulB; rw [ok_le hw (by omega),ok_le (B:=262144000) (by omega) (by omega)]; rfl
 have hf:fxB (ab w * i / 65536)=true:=fx_of (by omega)
 refine ⟨?_,?_⟩
 ·unfold mulE fxE; rw [hB,hP,hf]; rfl
 ·unfold mulV fxV; rw [hB,hP,hf,g,gx]; rfl
abbrev mpN (t n x y sx sy sp:Int) (o:Bool) (t' n' x' y' sx' sy' sp':Int) (o' m:Bool):AVal:=.agg [iN t,iN n,iN x,iN y,iN sx,iN sy,iN sp,bN o,iN t',iN n',iN x',iN y',iN sx',iN sy',iN sp',bN o',bN m]
noncomputable def rmeet0S:Fsp:=fun _ args k=>match args with
 | [.agg [.int .i64 t,.int .i64 n,.int .i64 x,.int .i64 y,.int .i64 sx,.int .i64 sy,.int .i64 sp,.bool o],.agg [.int .i64 t',.int .i64 n',.int .i64 x',.int .i64 y',.int .i64 sx',.int .i64 sy',.int .i64 sp',.bool o'],.int .i64 el]=>
   bif mtOk t n x y sx sy sp t' n' x' y' sx' sy' sp' el&&tchB x y x' y' o o' then
    bif decide (0 < mtJ x y sx sy x' y' sx' sy') then
     bif mtFit t n x y sx sy sp t' n' x' y' sx' sy' sp' el then
      k (.ret (.tup [mpN t n x y (sx - mtPx x y sx sy x' y' sx' sy' el) (sy - mtPy x y sx sy x' y' sx' sy' el) sp o t' n' x' y' (sx' + mtPx x y sx sy x' y' sx' sy' el) (sy' + mtPy x y sx sy x' y' sx' sy' el) sp' o' true,iN 0]))
     else k (.ret (.tup [mpN 0 0 0 0 0 0 0 false 0 0 0 0 0 0 0 false false,iN 4]))
    else k (.ret (.tup [mpN t n x y sx sy sp o t' n' x' y' sx' sy' sp' o' false,iN 0]))
   else none
 | _=>none
theorem rmeet0S_ok:FspOk Tryz.prog 55 rmeet0S:=tower_S fnN_ok sp_nil ⟨Tryz.func55,fun _ _=>by kernel_rfl⟩ (by intro α args k; unfold rmeet0S; split<;>simp only [cond_bind,Option.bind_some,Option.bind_none]) fun args out hs h=>by
 unfold rmeet0S at h
 split at h
 ·rename_i t n x y sx sy sp o t' n' x' y' sx' sy' sp' o' el
  cases hb:mtOk t n x y sx sy sp t' n' x' y' sx' sy' sp' el&&tchB x y x' y' o o'
  ·rw [hb] at h; cases h
  ·rw [hb,cond_true] at h
   simp only [mtOk,Bool.and_eq_true,decide_eq_true_eq] at hb
   obtain ⟨⟨ha,hb,he⟩,ht⟩:=hb
   have A:=bod_is.1 ha
   have B:=bod_is.1 hb
   have M:=mt_is A B he ht
   refine ⟨1,4,(rmeet0_text 1 0 AOut t n x y sx sy sp o t' n' x' y' sx' sy' sp' o' el some).trans (Eq.trans ?_ h)⟩
   have a1:=A.x
   have a2:=A.y
   have b1:=B.x
   have b2:=B.y
   have s1:=A.sx
   have s2:=A.sy
   have s3:=B.sx
   have s4:=B.sy
   rw [w64 (x' - x) (by omega),w64 (y' - y) (by omega),w64 (sx - sx') (by omega),w64 (sy - sy') (by omega),w64 (1000 + el) (by omega),M.way.vx,M.way.vy]
   rw [rdt_down (rx:=sx - sx') (ry:=sy - sy') ⟨by omega,by omega⟩ ⟨M.way.wx,M.way.wy⟩]
   have hJ:mJ (sx - sx') (sy - sy') (mW (x' - x) (y' - y) (x' - x)) (mW (x' - x) (y' - y) (y' - y))=mtJ x y sx sy x' y' sx' sy':=rfl
   rw [hJ]
   by_cases hj:0 < mtJ x y sx sy x' y' sx' sy'
   ·rw [decide_eq_false (show ¬ mtJ x y sx sy x' y' sx' sy'≤0 by omega),decide_eq_true hj,cond_false,cond_true]
    have I:=M.i hj
    rw [rsl_cut ⟨hj,M.j.2⟩ he]
    have i2:=Int.le_trans I.2 M.j.2
    rw [(rmul_cut M.way.wx ⟨I.1,i2⟩).1,(rmul_cut M.way.wy ⟨I.1,i2⟩).1,(rmul_cut M.way.wx ⟨I.1,i2⟩).2,(rmul_cut M.way.wy ⟨I.1,i2⟩).2]
    have hPx:mP (mW (x' - x) (y' - y) (x' - x)) (mI (mtJ x y sx sy x' y' sx' sy') el)=mtPx x y sx sy x' y' sx' sy' el:=rfl
    have hPy:mP (mW (x' - x) (y' - y) (y' - y)) (mI (mtJ x y sx sy x' y' sx' sy') el)=mtPy x y sx sy x' y' sx' sy' el:=rfl
    have tv:∀ v,twoV 0 0 v=v:=fun _=>rfl
    simp only [hPx,hPy,tv,rbod_eq]
    have px:=M.px hj
    have py:=M.py hj
    unfold mtFit
    rw [w64 (sx - _) (by omega),w64 (sy - _) (by omega),w64 (sx' + _) (by omega),w64 (sy' + _) (by omega)]
    cases bodB t n x y (sx - mtPx x y sx sy x' y' sx' sy' el) (sy - mtPy x y sx sy x' y' sx' sy' el) sp
    ·rfl
    ·cases bodB t' n' x' y' (sx' + mtPx x y sx sy x' y' sx' sy' el) (sy' + mtPy x y sx sy x' y' sx' sy' el) sp'<;>rfl
   ·rw [decide_eq_true (show mtJ x y sx sy x' y' sx' sy'≤0 by omega),decide_eq_false hj,cond_true,cond_false]
 ·cases h
def foldO {τ:Type} (step:Nat→τ→Option τ):Nat→Nat→τ→Option τ
 | 0,_,t=>some t
 | k + 1,m,t=>match step m t with
   | none=>none
   | some t'=>foldO step k (m + 1) t'
theorem foldO_inv {τ:Type} {step:Nat→τ→Option τ} {inv:Nat→τ→Prop} {n:Nat} (hi:∀ i t t',i < n→inv i t→step i t=some t'→inv (i + 1) t'):∀ k m t t',m + k=n→inv m t→foldO step k m t=some t'→inv n t'
 | 0,m,t,t',hm,h,he=>by cases he; rw [← hm]; exact h
 | k + 1,m,t,t',hm,h,he=>by
   rw [foldO] at he
   cases hs:step m t with
   | none=>rw [hs] at he; cases he
   | some u=>
     rw [hs] at he
     exact foldO_inv hi k (m + 1) u t' (by omega) (hi m t u (by omega) h hs) he
theorem fold_loop {α σ τ:Type} {f:σ→Option (LRes σ α)} {K:Nat→σ→Option α} (st:Nat→τ→σ) (step:Nat→τ→Option τ) (inv:Nat→τ→Prop) (R:Option α) {b n:Nat}
 (h:∀ i t,i < n→inv i t→f (st i t)=match step i t with | some t'=>some (.cont (st (i + 1) t')) | none=>finL R)
 (hi:∀ i t t',i < n→inv i t→step i t=some t'→inv (i + 1) t')
 (hend:∀ t,inv n t→f (st n t)=some (.brk b (st n t))):∀ k m t N,m + k=n→inv m t→k < N→afterL (iterL N f (st m t)) K=match foldO step k m t with | some t'=>K b (st n t') | none=>R
 | 0,m,t,N,hm,hv,hN=>by
   obtain ⟨N,rfl⟩:∃ M,N=M + 1:=⟨N - 1,by omega⟩
   have:m=n:=by omega
   subst this
   rw [iterL,hend t hv]
   rfl
 | k + 1,m,t,N,hm,hv,hN=>by
   obtain ⟨N,rfl⟩:∃ M,N=M + 1:=⟨N - 1,by omega⟩
   have e:=h m t (by omega) hv
   rw [iterL,e,foldO]
   cases hs:step m t with
   | none=>cases R<;>rfl
   | some t'=>exact fold_loop st step inv R h hi hend k (m + 1) t' N (by omega) (hi m t t' (by omega) hv hs) (by omega)
abbrev HtI:=Int × Int × Int × Unit
def BdI.mv (b:BdI) (a c d e g:Int):BdI:=(b.1,b.2.1,((a,c,()),(d,e,()),g,()),b.o,())
def BdI.sp (b:BdI) (d e:Int):BdI:=(b.1,b.2.1,((b.x,b.y,()),(d,e,()),b.s,()),b.o,())
def BdI.off (b:BdI):BdI:=(b.1,b.2.1,((b.x,b.y,()),(0,0,()),0,()),true,())
def rstB (b:BdI):Bool:=b.u==0&&(b.v==0&&true)
noncomputable def gnS (sl bd:Int) (s:St5) (n:Int):Option St5:=tkStep sl bd s.1 s.2.1 s.2.2.1 s.2.2.2.1 s.2.2.2.2 n (fun a b c d e=>some (a,b,c,d,e)) none
theorem gnS_step {β:Type} (sl bd:Int) (s:St5) (n:Int) (r:Int→Int→Int→Int→Int→β) (z:β):tkStep sl bd s.1 s.2.1 s.2.2.1 s.2.2.2.1 s.2.2.2.2 n r z=match gnS sl bd s n with | none=>z | some s'=>r s'.1 s'.2.1 s'.2.2.1 s'.2.2.2.1 s'.2.2.2.2:=by
 unfold gnS tkStep
 cases tkR sl s.2.2.1 s.2.2.2.1 n<;>cases tkM sl bd s.1 s.2.1 s.2.2.1 s.2.2.2.1 s.2.2.2.2 n<;>rfl
theorem gnS_mov (sl bd:Int) (s s':St5) (n:Int) (hs:mov5 s=true) (hn:gnS sl bd s n=some s'):mov5 s'=true:=by
 unfold gnS tkStep at hn
 cases hr:tkR sl s.2.2.1 s.2.2.2.1 n
 ·rw [hr] at hn
  cases hm:tkM sl bd s.1 s.2.1 s.2.2.1 s.2.2.2.1 s.2.2.2.2 n
  ·rw [hm] at hn; cases hn
  ·rw [hm] at hn
   cases hn
   exact hm
 ·rw [hr] at hn
  cases hn
  obtain ⟨p,v,sp⟩:=mov_iff.1 hs
  show movB s.1 s.2.1 0 0 0=true
  exact mov_iff.2 ⟨p,⟨⟨by omega,by omega⟩,⟨by omega,by omega⟩⟩,⟨by omega,by omega⟩⟩
noncomputable def glB (sl bd:Int→Int→Int) (n:Int) (b:BdI):Option BdI:=
 bif b.o then some b else bif rstB b then some b else
  match gnS (sl b.x b.y) (bd b.x b.y) (b.x,b.y,b.u,b.v,b.s) n with
  | none=>none
  | some s=>some (b.mv s.1 s.2.1 s.2.2.1 s.2.2.2.1 s.2.2.2.2)
noncomputable def glP (sl bd:Int→Int→Int) (st:Nat→Int) (k:Nat) (S:List BdI):Option (List BdI):=
 match glB sl bd (st k) (S.getD k bdD) with
 | none=>none
 | some b=>some (S.set k b)
noncomputable def glL (sl bd:Int→Int→Int) (st:Nat→Int) (S:List BdI):Option (List BdI):=foldO (glP sl bd st) S.length 0 S
noncomputable def meB (p q:BdI):Bool:=mtGo p.x p.y p.u p.v p.o q.x q.y q.u q.v q.o
noncomputable def mePx (el:Int) (p q:BdI):Int:=mtPx p.x p.y p.u p.v q.x q.y q.u q.v el
noncomputable def mePy (el:Int) (p q:BdI):Int:=mtPy p.x p.y p.u p.v q.x q.y q.u q.v el
noncomputable def meA (el:Int) (p q:BdI):BdI:=p.sp (p.u - mePx el p q) (p.v - mePy el p q)
noncomputable def meZ (el:Int) (p q:BdI):BdI:=q.sp (q.u + mePx el p q) (q.v + mePy el p q)
noncomputable def meF (el:Int) (p q:BdI):Bool:=bdOk (meA el p q)&&bdOk (meZ el p q)
abbrev PsI:=List BdI × List HtI × Bool
noncomputable def pcP (t el:Int) (a b:Nat) (s:PsI):Option PsI:=
 bif meB (s.1.getD a bdD) (s.1.getD b bdD) then
  bif meF el (s.1.getD a bdD) (s.1.getD b bdD) then some ((s.1.set a (meA el (s.1.getD a bdD) (s.1.getD b bdD))).set b (meZ el (s.1.getD a bdD) (s.1.getD b bdD)),s.2.1++[(t,(a:Int),(b:Int),())],true)
  else none
 else some s
noncomputable def rwP (t el:Int) (n a:Nat) (s:PsI):Option PsI:=foldO (pcP t el a) (n - (a + 1)) (a + 1) s
noncomputable def rdP (t el:Int) (s:PsI):Option PsI:=foldO (rwP t el s.1.length) s.1.length 0 (s.1,s.2.1,false)
noncomputable def rnsP (t el:Int):Nat→PsI→Option PsI
 | 0,s=>some s
 | m + 1,s=>match rdP t el s with
   | none=>none
   | some s'=>bif s'.2.2 then rnsP t el m s' else some s'
def gnB (b:BdI):BdI:=bif !b.o&&gonB b.x b.y then b.off else b
noncomputable def tkP (sl bd:Int→Int→Int) (st:Nat→Int) (t el:Int) (S:List BdI):Option (List BdI × List HtI):=
 match glL sl bd st S with
 | none=>none
 | some S1=>match rnsP t el 8 (S1,[],true) with
   | none=>none
   | some s=>some (s.1.map gnB,s.2.1)
end Go.Proofs.YtpigibmlkgjdkaaGreat
